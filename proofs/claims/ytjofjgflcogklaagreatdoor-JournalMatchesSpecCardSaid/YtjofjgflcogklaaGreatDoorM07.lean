/-
  Merged from JsM JsN JsS JsT JnJ JsU JnY: Open of the reference.
-/
import Derived.Test.YtjofjgflcogklaaGreatDoorM06
import Derived.Test.YtjofjgflcogklaaGreatDoorM05
import Derived.KernelRfl
set_option linter.unusedSimpArgs false
set_option linter.unusedVariables false
set_option linter.defProp false
set_option linter.constructorNameAsVariable false
/-
  Open of the reference.
-/
set_option maxHeartbeats 4000000
namespace Go.Proofs.YtjofjgflcogklaaGreatDoor
open Go Go.Abs Go.Sha Go.Jn
variable {h : Heap} {r s0 : Nat} {D : Dsk}
theorem partV_facts2 (o : Option Prt) : ∀ H, litA 0 102 1 5 true [.int .i64 0, .int .i64 0, .int .i64 0, .str [], .bool false] (some (partV o).cells) H = some (.sl (([o] : List (Option Prt)).map partV) .none, H) := by
  cases o with
  | none => exact fun H => lit_none rfl rfl rfl rfl
  | some q => exact fun H => lit_none rfl rfl rfl rfl
theorem ropen_c (P : RD h r s0 D) (ho : D.off = false) : CV F 13 [.ptr r 0] h (fun v h' => ∃ j t1 t2 t3, v = .tup [.ptr j 0, .int .i64 0] ∧ RJ h' j r t1 t2 t3 (openJ (conts D)) ∧ RD h' r s0 D ∧ Fr (fun _ => False) h h' ∧ ∀ i, JS j t1 t2 t3 i → h.next ≤ i) := by
  have hpos := P.ok.pos
  have hlen := P.ok.len
  refine CV_wp (fn := c13) rfl ?_
  dsimp only [oT, oN, oV, oG, oW, c13]
  have f1 : ∀ o, Fr (fun _ => False) h (h.push o) := fun o => (Fr.refl _ _).push o
  have P1 : ∀ o, RD (h.push o) r s0 D := fun o => P.fr (f1 o) (fun _ _ q => q)
  have cl := conts_len D
  obtain ⟨cs, hcs⟩ : ∃ cs, cs = conts D := ⟨_, rfl⟩
  obtain ⟨ps, hps⟩ : ∃ ps, ps = cs.map unpack := ⟨_, rfl⟩
  have pl : ps.length = D.s.length := by rw [hps, List.length_map, hcs, cl]
  replace fx := Dum_eq
  (first | refine go ?_ | exact goC | skip); repeat' (first | refine gP ?_ | exact gPc | refine gN ?_ | exact gNc | (refine gI ?_ ?_ <;> intro hyp <;> first | refine goF ?_ | exact goFc | refine goT ?_ | exact goTc | skip))
  obtain ⟨j, hj⟩ : ∃ j, j = h.next := ⟨_, rfl⟩
  rw [← hj]
  refine w_loop (fun m vs h' => ∃ (k : Nat) (tk t2 : Tok) (x1 x2 x3 x4 x5 x6 x7 x8 x9 x10 x11 : AVal), m = D.s.length - k ∧ k ≤ D.s.length ∧ vs = [.ptr r 0, x1, x2, .ptr j 0, .sl ((ps.take k).map partV) tk, .int .i64 (k : Int), x3, x4, x5, x6, .tup [], .tup [], .tup [], .tup [], .tup [], .tup [], .tup [], .tup [], x7, x8, x9, x10, x11, .tup [], .tup [], .tup [], .tup []] ∧
      RJ h' j r .nil t2 .nil (heads cs k) ∧ GrN h' 102 5 (ps.take k) tk ∧ RD h' r s0 D ∧ Fr (fun _ => False) h h' ∧ (∀ i s, tk = .own i s → h.next ≤ i) ∧ (∀ i s, t2 = .own i s → h.next ≤ i)) D.s.length
    ⟨0, .nil, .nil, _, _, _, _, _, _, _, _, _, _, _, rfl, by omega, rfl, ⟨get_push_eq hj, ⟨GrN.nil _ _ _, GrN.nil _ _ _, GrN.nil _ _ _, by simp⟩⟩, GrN.nil _ _ _, P1 _, f1 _, by simp, by simp⟩ ?_
  rintro m vs h1 ⟨k, tk, t2, x1, x2, x3, x4, x5, x6, x7, x8, x9, x10, x11, rfl, hk, rfl, RJ1, G1, P2, f2, u1, u2⟩
  have L := cv_rw (rlen_c P2)
  by_cases hkn : k < D.s.length
  · have rd := cv_rw (rread_c P2 (k : Int))
    have hread := read_conts D ho hkn
    have s64 := conts_64 D hkn
    rw [← hcs] at hread s64
    have hpk : nth ps k = unpack (nth cs k) := by
      rw [nth_eq (by omega), nth_eq (by rw [hcs, cl]; exact hkn)]; simp [hps]
    have htk : ps.take (k + 1) = ps.take k ++ [nth ps k] := by
      rw [List.take_succ_eq_append_getElem (by omega), nth_eq (by omega)]
    have hup := runpack_v (nth cs k)
    have hbl := blank_v (nth cs k) (by omega)
    rw [hpk] at htk
    have hok := unpack_ok (nth cs k)
    obtain ⟨hn1, hn2, hn3, hn4, hn5⟩ := heads_next cs k
    have hJ : heads cs (k + 1) = scanSec (heads cs k) k (nth cs k) := rfl
    obtain ⟨J, hJJ⟩ : ∃ J, J = heads cs k := ⟨_, rfl⟩
    obtain ⟨J', hJJ'⟩ : ∃ J', J' = heads cs (k + 1) := ⟨_, rfl⟩
    have jn := heads_nums cs k
    have jt := heads_texts cs k
    have jn' := heads_nums cs (k + 1)
    have jt' := heads_texts cs (k + 1)
    have jb := (heads_bad cs k).1
    have hr1 : (D.read (k : Int)).1 = nth cs k := by rw [hread]
    have hr2 : (D.read (k : Int)).2 = 0 := by rw [hread]
    obtain ⟨s, hs⟩ : ∃ s, s = nth cs k := ⟨_, rfl⟩
    rw [← hJJ] at hn1 hn2 hn3 hn4 hn5 hJ jn jt jb RJ1
    rw [← hJJ'] at hJ jn' jt'
    rw [← hs] at hr1 s64 htk hup hok hJ hbl
    obtain ⟨prow, ptk⟩ := RJ1
    obtain ⟨o, ho⟩ : ∃ o, o = unpack s := ⟨_, rfl⟩
    rw [← ho] at hup htk hok
    obtain ⟨c1, c2, c3, c4, c5, _⟩ := partV_facts o
    have c6 := partV_facts2 o
    obtain ⟨C, hC⟩ : ∃ C, C = (partV o).cells := ⟨_, rfl⟩
    have lit5 : ∀ H, litA 0 102 1 5 true [.int .i64 0, .int .i64 0, .int .i64 0, .str [], .bool false] (some C) H = some (.sl (([o] : List (Option Prt)).map partV) .none, H) := by
      intro H; rw [hC]; exact c6 H
    rw [← hC] at c1 c2 c3 c4
    have hag : partV o = .agg C := by rw [hC]; cases o <;> rfl
    have hsc : setCells [.int .i64 0, .int .i64 0, .int .i64 0, .str [], .bool false] 0 C = C := setCells_all _ _ (by rw [c1]; rfl)
    have ctk : C.take 5 = C := List.take_of_length_le (by omega)
    replace fx := aI @L (aI @rd (aI @hr1 (aI @hr2 (aI @hup (aI @hag (aI @c1 (aI @c2 (aI @hsc (aI @ctk @lit5)))))))))
    (first | refine go ?_ | exact goC | skip); repeat' (first | refine gP ?_ | exact gPc | refine gN ?_ | exact gNc | (refine gI ?_ ?_ <;> intro hyp <;> first | refine goF ?_ | exact goFc | refine goT ?_ | exact goTc | skip))
    obtain ⟨R, hR⟩ : ∃ R, R = Obj.row true (typed 102) true C := ⟨_, rfl⟩
    obtain ⟨h3, hh3⟩ : ∃ h3, h3 = h1.push R := ⟨_, rfl⟩
    have f4 : Fr (fun _ => False) h1 h3 := by rw [hh3]; exact (Fr.refl _ _).push _
    have n3 : h3.next = h1.next + 1 := by rw [hh3]; rfl
    have a3 : h3.get h1.next = some R := by rw [hh3]; exact get_push_eq rfl
    rw [← hR, ← hag, ← hh3]
    have row3 := f4.get prow (fun q => q)
    have G3 := G1.fr f4 (fun _ _ _ q => q)
    have T3 := ptk.fr f4 (fun _ _ q => q)
    have P4 := P2.fr f4 (fun _ _ q => q)
    obtain ⟨h4, e4, n4, k4, o4⟩ := append_N (bytes := 48) (y := .sl ([o].map partV) .none) (ys := [o]) partV_len partV_mk partV_strip lenA_sl (elems_sl partV_len) G3 (by rw [List.length_take]; simp; omega) (by omega) (by omega) (by omega) (by simp)
    rw [← htk] at e4
    simp only [List.map_cons, List.map_nil] at e4
    have l3 := get_lt row3
    have row4 : h4.get j = _ := (o4 j (by omega) (G3.ne row3 (by simp))).trans row3
    have a4 : h4.get h1.next = some R := (o4 _ (by omega) (G3.ne a3 (by rw [hR]; simp))).trans a3
    rw [hR] at a4
    have G4 : GrN h4 102 5 (ps.take (k + 1)) (.own h3.next 5) := .inr ⟨_, rfl, k4⟩
    have g4 : GrN h4 3 1 J.bad t2 := T3.g2.keep fun i hg hs' => (o4 i (get_lt hg) (G3.ne hg (by simp))).trans hg
    have fr4 : Fr (fun i => ∃ s, tk = .own i s) h3 h4 := ⟨by omega, fun i hi hn => o4 i hi (fun i' s' e' => by rintro rfl; exact hn ⟨s', e'⟩)⟩
    have P5 : RD h4 r s0 D := P4.fr fr4 (fun i hi => by
      rintro ⟨s', e'⟩
      rcases hi with rfl | rfl
      · exact G3.ne P4.hr (by simp) _ _ e' rfl
      · exact G3.ne P4.hs (by simp) _ _ e' rfl)
    have F4 : Fr (fun _ => False) h h4 := ⟨by have := f2.1; have := f4.1; omega, fun i hi _ => by
      have hlt := f2.1
      rw [fr4.2 i (by have := f4.1; omega) (fun ⟨s', e'⟩ => by have := u1 i s' e'; omega), f4.2 i (by omega) (fun q => q)]; exact f2.2 i hi (fun q => q)⟩
    have hnO : numO o ≤ 4096 := by
      cases o with
      | none => simp [numO]
      | some q => exact (hok q rfl).2.2.1
    have hb' : J'.bad = if o.isNone && !Jn.blank s then J.bad ++ [k] else J.bad := by rw [hJ, ho]; rfl
    have hf' : J'.fin = if Jn.blank s then J.fin else k + 1 := by rw [hJ]; rfl
    have hx' : J'.next = max J.next (numO o + 1) := by rw [hJ, ho]; rfl
    have hc' : J'.closed = false := by rw [hJ]; exact hn4
    rw [jn, jt, hn4] at row4
    have ho3 : o.isNone = !o.isSome := by cases o <;> rfl
    rw [ho3] at hb'
    have ljr := get_lt row4
    have ja : j ≠ h1.next := by have := get_lt prow; omega
    have lP := P.lt
    have fin : ∀ (hf : Heap) (t2' : Tok), h4.next ≤ hf.next → (∀ i, i < h4.next → i ≠ j → (∀ i' s', t2 = .own i' s' → i ≠ i') → hf.get i = h4.get i) →
        hf.get j = some (.row true 0 true [.ptr r 0, .sl [] .nil, .sl [] .nil, .sl (J'.bad.map intN) t2', .int .i64 (J'.next : Int), .int .i64 (J'.fin : Int), .bool false]) → GrN hf 3 1 J'.bad t2' → (∀ i s, t2' = .own i s → h.next ≤ i) →
        RJ hf j r .nil t2' .nil (heads cs (k + 1)) ∧ GrN hf 102 5 (ps.take (k + 1)) (.own h3.next 5) ∧ RD hf r s0 D ∧ Fr (fun _ => False) h hf ∧ (∀ i s, (Tok.own h3.next 5) = .own i s → h.next ≤ i) ∧ ∀ i s, t2' = .own i s → h.next ≤ i := by
      intro hf t2' q1 q2 q3 q4 q5
      rw [← hJJ']
      have F5 : Fr (fun i => i = j ∨ ∃ s, t2 = .own i s) h4 hf := ⟨q1, fun i hi hn => q2 i hi (fun e => hn (.inl e)) (fun i' s' e e' => hn (.inr ⟨s', by rw [e']; exact e⟩))⟩
      refine ⟨⟨?_, ?_, q4, ?_, by simp⟩, .inr ⟨_, rfl, ?_⟩, P5.fr F5 ?_, ⟨by have := F4.1; omega, fun i hi _ => ?_⟩, ?_, q5⟩
      · rw [jn', jt', hc']; exact q3
      · rw [jn']; exact GrN.nil _ _ _
      · rw [jt']; exact GrN.nil _ _ _
      · rw [q2 _ (get_lt k4) (by omega) (fun i' s' e => g4.ne k4 (by simp) i' s' e)]; exact k4
      · rintro i hi (rfl | ⟨s', e⟩)
        · have := lP _ hi; omega
        · have := lP _ hi; have := u2 _ _ e; omega
      · rw [q2 i (by have := F4.1; omega) (by omega) (fun i' s' e e' => by have := u2 _ _ e; omega)]; exact F4.2 i hi (fun q => q)
      · intro i s' e
        simp only [Tok.own.injEq] at e
        have := f2.1; omega
    have lj4 : ∀ (x : Option Abs.Obj) i, i ≠ j → (h4.put j x).get i = h4.get i := fun x i hi => get_put_ne hi
    have g5 : ∀ x, GrN (h4.put j x) 3 1 J.bad t2 := fun x => g4.keep fun i hg _ => by rw [get_put_ne (by rintro rfl; rw [row4] at hg; simp at hg)]; exact hg
    have g6 : ∀ x y, GrN ((h4.put j x).put j y) 3 1 J.bad t2 := fun x y => g4.keep fun i hg _ => by
      have hne : i ≠ j := by rintro rfl; rw [row4] at hg; simp at hg
      rw [get_put_ne hne, get_put_ne hne]; exact hg
    have pp : ∀ x y, ((h4.put j (some x)).put j y).get j = y := fun x y => get_put_old (get_put_old row4)
    cases hB : Jn.blank s with
    | true =>
      rw [hB] at hb' hf' hbl
      simp only [Bool.not_true, Bool.and_false, Bool.false_eq_true, if_false, if_true] at hb' hf'
      replace fx := aI @e4 (aI @hbl (aI @row4 (aI @a4 (aI @c1 (aI @c3 @c4)))))
      (first | refine go ?_ | exact goC | skip); repeat' (first | refine gP ?_ | exact gPc | refine gN ?_ | exact gNc | (refine gI ?_ ?_ <;> intro hyp <;> first | refine goF ?_ | exact goFc | refine goT ?_ | exact goTc | skip))
      all_goals first
        | exact lp_n ⟨_, by omega, k + 1, _, t2, _, _, _, _, _, _, _, _, _, _, _, rfl, by omega, by push_cast; rfl, fin h4 t2 (Nat.le_refl _) (fun i _ _ _ => rfl) (by rw [hb', hf', show J'.next = J.next by omega]; exact row4) (by rw [hb']; exact g4) u2⟩
        | exact lp_n ⟨_, by omega, k + 1, _, t2, _, _, _, _, _, _, _, _, _, _, _, rfl, by omega, by push_cast; rfl, fin _ t2 (Nat.le_of_eq (put_next _ _ _).symm) (fun i _ hi _ => lj4 _ i hi) (by rw [hb', hf', show J'.next = numO o + 1 by omega, Int.natCast_add]; exact get_put_old row4) (by rw [hb']; exact g5 _) u2⟩
    | false =>
      rw [hB] at hb' hf' hbl
      simp only [Bool.not_false, Bool.and_true, Bool.false_eq_true, if_false] at hb' hf'
      cases hs' : o.isSome with
      | true =>
        rw [hs'] at hb' c3
        simp only [Bool.not_true, Bool.false_eq_true, if_false] at hb'
        replace fx := aI @e4 (aI @hbl (aI @row4 (aI @pp (aI @a4 (aI @c1 (aI @c3 @c4))))))
        (first | refine go ?_ | exact goC | skip); repeat' (first | refine gP ?_ | exact gPc | refine gN ?_ | exact gNc | (refine gI ?_ ?_ <;> intro hyp <;> first | refine goF ?_ | exact goFc | refine goT ?_ | exact goTc | skip))
        all_goals first
          | exact lp_n ⟨_, by omega, k + 1, _, t2, _, _, _, _, _, _, _, _, _, _, _, rfl, by omega, by push_cast; rfl, fin _ t2 (Nat.le_of_eq (put_next _ _ _).symm) (fun i _ hi _ => lj4 _ i hi) (by rw [hb', hf', show J'.next = J.next by omega, Int.natCast_add]; exact get_put_old row4) (by rw [hb']; exact g5 _) u2⟩
          | exact lp_n ⟨_, by omega, k + 1, _, t2, _, _, _, _, _, _, _, _, _, _, _, rfl, by omega, by push_cast; rfl, fin _ t2 (Nat.le_of_eq ((put_next _ _ _).trans (put_next _ _ _)).symm) (fun i _ hi _ => (get_put_ne hi).trans (get_put_ne hi)) (by rw [hb', hf', show J'.next = numO o + 1 by omega, Int.natCast_add, Int.natCast_add]; exact pp _ _) (by rw [hb']; exact g6 _ _) u2⟩
      | false =>
        rw [hs'] at hb' c3
        simp only [Bool.not_false, if_true] at hb'
        have hN0 : numO o = 0 := by
          cases o with
          | none => rfl
          | some q => simp at hs'
        rw [hN0] at c4 hx'
        have lb : ∀ H, litA 0 3 1 1 false [.int .i64 0] (some [.int .i64 (k : Int)]) H = some (.sl (([k] : List Nat).map intN) .none, H) := fun H => lit_none rfl rfl rfl rfl
        replace fx := aI @e4 (aI @hbl (aI @row4 (aI @a4 (aI @c1 (aI @c3 (aI @c4 @lb))))))
        (first | refine go ?_ | exact goC | skip); repeat' (first | refine gP ?_ | exact gPc | refine gN ?_ | exact gNc | (refine gI ?_ ?_ <;> intro hyp <;> first | refine goF ?_ | exact goFc | refine goT ?_ | exact goTc | skip))
        obtain ⟨R1, hR1⟩ : ∃ R1, R1 = Obj.row true 0 true [.ptr r 0, .sl [] .nil, .sl [] .nil, .sl (J.bad.map intN) t2, .int .i64 (J.next : Int), .int .i64 ((k : Int) + 1), .bool false] := ⟨_, rfl⟩
        obtain ⟨h6, e6, n6, k6, o6⟩ := append_N (bytes := 8) (ag := false) (f := intN) (y := .sl ([k].map intN) .none) (ys := [k]) intN_len (fun _ => rfl) (fun _ => rfl) lenA_sl (elems_sl intN_len) (g5 (some R1)) (by simp; omega) (by omega) (by omega) (by omega) (by simp)
        simp only [List.map_cons, List.map_nil] at e6
        rw [put_next] at n6 k6 o6 e6
        have gj : (h4.put j (some R1)).get j = some R1 := get_put_old row4
        have row6 : h6.get j = some R1 := (o6 j ljr ((g5 (some R1)).ne gj (by rw [hR1]; simp))).trans gj
        have a6 : h6.get h1.next = h4.get h1.next := (o6 _ (get_lt a4) ((g5 (some R1)).ne ((get_put_ne (Ne.symm ja)).trans a4) (by simp))).trans (get_put_ne (Ne.symm ja))
        rw [a4] at a6
        rw [← hR1]
        rw [hR1] at row6
        replace fx := aI @e6 (aI @row6 (aI @a6 (aI @c1 (aI @c3 @c4))))
        (first | refine go ?_ | exact goC | skip); repeat' (first | refine gP ?_ | exact gPc | refine gN ?_ | exact gNc | (refine gI ?_ ?_ <;> intro hyp <;> first | refine goF ?_ | exact goFc | refine goT ?_ | exact goTc | skip))
        refine lp_n ⟨_, by omega, k + 1, _, .own h4.next 1, _, _, _, _, _, _, _, _, _, _, _, rfl, by omega, by push_cast; rfl, fin _ (.own h4.next 1) (by rw [put_next]; omega) (fun i h1' hi h2' => (get_put_ne hi).trans ((o6 i h1' h2').trans (get_put_ne hi))) (by rw [hb', hf', show J'.next = J.next by omega, Int.natCast_add]; exact get_put_old row6) ?_ ?_⟩
        · rw [hb']
          exact .inr ⟨_, rfl, by rw [get_put_ne (by omega)]; exact k6⟩
        · intro i s' e
          simp only [Tok.own.injEq] at e
          have := F4.1; omega
  · have e : k = D.s.length := by omega
    subst e
    have ept : ps.take D.s.length = ps := List.take_of_length_le (by omega)
    rw [ept] at G1 ⊢
    obtain ⟨a, rfl, ga⟩ : ∃ a, tk = .own a 5 ∧ h1.get a = some (.tok 102) := by
      rcases G1 with ⟨e, _⟩ | G1
      · rw [e] at pl; simp at pl; omega
      · exact G1
    obtain ⟨J, hJ⟩ : ∃ J, J = heads cs D.s.length := ⟨_, rfl⟩
    have hop : openJ (conts D) = { J with recs := scanS ps 0 [] } := by rw [openJ, ← hcs, ← hps, hcs, cl, ← hcs, hJ]
    have jr := heads_recs cs D.s.length
    rw [← hJ] at RJ1 jr
    have hJ0 : J = { J with recs := [] } := by rw [← jr]
    replace fx := @L
    (first | refine go ?_ | exact goC | skip); repeat' (first | refine gP ?_ | exact gPc | refine gN ?_ | exact gNc | (refine gI ?_ ?_ <;> intro hyp <;> first | refine goF ?_ | exact goFc | refine goT ?_ | exact goTc | skip))
    refine w_loop (fun m vs h' => ∃ (q : Nat) (t1 t3 : Tok) (R : List (Nat × Bs)) (x1 x2 x3 x4 x5 x6 x7 x8 x9 x10 x11 x12 x13 x14 x15 x16 x17 x18 x19 x20 x21 x22 x23 : AVal), m = D.s.length - q ∧ q ≤ D.s.length ∧ vs = [.ptr r 0, x1, x2, .ptr j 0, .sl (ps.map partV) (.own a 5), x3, x4, x5, x6, x7, .int .i64 (q : Int), x8, x9, x10, x11, x12, x13, x14, x15, x16, x17, x18, x19, x20, x21, x22, x23] ∧
        scanS ps 0 [] = scanS (ps.drop q) 0 R ∧ R.length ≤ q ∧ RJ h' j r t1 t2 t3 { J with recs := R } ∧ RD h' r s0 D ∧ Fr (fun _ => False) h h' ∧ (∀ i, JS j t1 t2 t3 i → h.next ≤ i)) D.s.length
      ⟨0, .nil, .nil, [], _, _, _, _, _, _, _, _, _, _, _, _, _, _, _, _, _, _, _, _, _, _, _, rfl, by omega, rfl, rfl, by simp, by rw [← hJ0]; exact RJ1, P2, f2, ?_⟩ ?_
    · rintro i (rfl | ⟨s, e⟩ | ⟨s, e⟩ | ⟨s, e⟩)
      · omega
      · simp at e
      · exact u2 _ _ e
      · simp at e
    · clear RJ1 G1 P2 f2 ga L
      rintro m vs h1 ⟨q, t1, t3, R, x1, x2, x3, x4, x5, x6, x7, x8, x9, x10, x11, x12, x13, x14, x15, x16, x17, x18, x19, x20, x21, x22, x23, rfl, hq, rfl, hsc, hRl, PJ1, P2, f2, u3⟩
      by_cases hqn : q < D.s.length
      · have hdn : ps.drop q ≠ [] := fun e => by have := congrArg List.length e; simp at this; omega
        have hpo : ∀ o ∈ ps, POk o := by
          intro o ho
          rw [hps] at ho
          obtain ⟨s, _, rfl⟩ := List.mem_map.1 ho
          exact unpack_ok s
        have hpush : ∀ o, Fr (fun _ => False) h1 (h1.push o) := fun o => (Fr.refl _ _).push o
        cases hpq : nth ps q with
        | none =>
          have hrn : record (ps.drop q) = none := by
            rw [List.drop_eq_getElem_cons (by omega), ← nth_eq (by omega), hpq]; rfl
          have hnx := scanS_none (R := R) hdn hrn
          rw [List.drop_drop] at hnx
          have hc := rcount_v 0
          replace fx := aI @hpq (aI @partV_none @hc)
          (first | refine go ?_ | exact goC | skip); repeat' (first | refine gP ?_ | exact gPc | refine gN ?_ | exact gNc | (refine gI ?_ ?_ <;> intro hyp <;> first | refine goF ?_ | exact goFc | refine goT ?_ | exact goTc | skip))
          refine w_loop_once ?_
          replace fx := Dum_eq
          (first | refine go ?_ | exact goC | skip); repeat' (first | refine gP ?_ | exact gPc | refine gN ?_ | exact gNc | (refine gI ?_ ?_ <;> intro hyp <;> first | refine goF ?_ | exact goFc | refine goT ?_ | exact goTc | skip))
          exact lp_n ⟨_, by omega, q + 1, t1, t3, R, _, _, _, _, _, _, _, _, _, _, _, _, _, _, _, _, _, _, _, _, _, _, _, rfl, by omega, by push_cast; rfl, by rw [hsc, hnx], by omega, PJ1.fr (hpush _) (fun _ _ q => q), P2.fr (hpush _) (fun _ _ q => q), f2.trans (hpush _), u3⟩
        | some p =>
          have hc := rcount_v p.left
          obtain ⟨l1, l2, l3, l4, l5⟩ := hpo (some p) (by rw [← hpq]; exact nth_mem (by omega)) p rfl
          have hcl := count_le p.left
          have hc1 := count_pos p.left l1
          obtain ⟨Q, hQ⟩ : ∃ Q, Q = ps.drop q := ⟨_, rfl⟩
          have hQl : Q.length = D.s.length - q := by rw [hQ, List.length_drop, pl]
          have hQn : ∀ i, q + i < D.s.length → nth Q i = nth ps (q + i) := fun i hi => by
            rw [nth_eq (by omega), nth_eq (by omega)]; simp [hQ]
          have hr : record Q = if decide (p.part = 0) && (decide (count p.left ≤ Q.length) && (List.range (count p.left)).all (chainOk Q p)) then some (p.number, count p.left, textOf Q (count p.left)) else none := by
            have e1 : Q = some p :: ps.drop (q + 1) := by rw [hQ, List.drop_eq_getElem_cons (by omega), ← nth_eq (by omega), hpq]
            rw [e1]; rfl
          have hQp : ∀ o ∈ Q, POk o := fun o ho => hpo o (List.mem_of_mem_drop (by rw [← hQ]; exact ho))
          rw [← hQ] at hsc hdn
          obtain ⟨C, hC⟩ : ∃ C, C = count p.left := ⟨_, rfl⟩
          rw [← hC] at hc hcl hc1 hr
          have bad : ∀ k, k < C → C ≤ Q.length → chainOk Q p k = false → record Q = none := by
            intro k hk _ hn
            rw [hr, if_neg]
            simp only [Bool.and_eq_true, decide_eq_true_eq, List.all_eq_true, List.mem_range]
            intro q'
            rw [q'.2.2 k hk] at hn
            simp at hn
          by_cases hw0 : p.part = 0 ∧ C ≤ Q.length
          · obtain ⟨w1, w2⟩ := hw0
            replace fx := aI @hpq (aI @partV_some (aI @hc @hQl))
            (first | refine go ?_ | exact goC | skip); repeat' (first | refine gP ?_ | exact gPc | refine gN ?_ | exact gNc | (refine gI ?_ ?_ <;> intro hyp <;> first | refine goF ?_ | exact goFc | refine goT ?_ | exact goTc | skip))
            obtain ⟨A, hA⟩ : ∃ A, A = h1.next := ⟨_, rfl⟩
            obtain ⟨RA, hRA⟩ : ∃ RA, RA = Obj.row true (typed 102) true [.int .i64 (p.number : Int), .int .i64 (p.part : Int), .int .i64 (p.left : Int), .str p.pay, .bool true] := ⟨_, rfl⟩
            have gA0 : (h1.push RA).get A = some RA := get_push_eq hA
            have fA0 := hpush RA
            rw [← hRA, ← hA]
            refine w_loop (fun m vs h' => ∃ (i : Nat) (tx : Bs) (wh : Bool) (x30 x31 x32 x33 x34 x35 x36 x37 x38 x39 x40 : AVal), m = C - i ∧ i ≤ C ∧ vs = [.ptr r 0, x1, x2, .ptr j 0, .sl (ps.map partV) (.own a 5), x3, x4, x5, x6, x7, .int .i64 (q : Int), .ptr A 0, .int .i64 (C : Int), .str tx, .bool wh, .int .i64 (i : Int), x30, x31, x32, x33, x34, x35, x36, x37, x38, x39, x40] ∧
                (wh = true → tx = textOf Q i ∧ ∀ i', i' < i → chainOk Q p i' = true) ∧ (wh = false → record Q = none) ∧ h'.get A = some RA ∧ Fr (fun _ => False) h1 h') C
              ⟨0, [], true, _, _, _, _, _, _, _, _, _, _, _, rfl, by omega, by rw [show decide ((q : Int) + (C : Int) ≤ (ps.length : Int)) = true from decide_eq_true (by omega)]; rfl, fun _ => ⟨rfl, fun i' hi => by omega⟩, by simp, gA0, fA0⟩ ?_
            clear gA0 fA0
            rintro m vs h3 ⟨i, tx, wh, x30, x31, x32, x33, x34, x35, x36, x37, x38, x39, x40, rfl, hi, rfl, hwt, hwf, gA, fA⟩
            have PJ3 := PJ1.fr fA (fun _ _ q => q)
            have P3 := P2.fr fA (fun _ _ q => q)
            have f3 := f2.trans fA
            cases wh with
            | false =>
              have hrn := hwf rfl
              have hnx := scanS_none (R := R) hdn hrn
              rw [hQ, List.drop_drop, ← hQ] at hnx
              replace fx := Dum_eq
              (first | refine go ?_ | exact goC | skip); repeat' (first | refine gP ?_ | exact gPc | refine gN ?_ | exact gNc | (refine gI ?_ ?_ <;> intro hyp <;> first | refine goF ?_ | exact goFc | refine goT ?_ | exact goTc | skip))
              exact lp_n ⟨_, by omega, q + 1, t1, t3, R, _, _, _, _, _, _, _, _, _, _, _, _, _, _, _, _, _, _, _, _, _, _, _, rfl, by omega, by push_cast; rfl, by rw [hsc, hnx], by omega, PJ3, P3, f3, u3⟩
            | true =>
              obtain ⟨htx, hch⟩ := hwt rfl
              rw [hRA] at gA
              by_cases hiC : i < C
              · have T : ((q : Int) + (i : Int)).toNat = q + i := by omega
                have hns := hQn i (by omega)
                have hts := textOf_succ Q (show i < Q.length by omega)
                have htl := textOf_len Q hQp i
                have hm := hpo (nth ps (q + i)) (nth_mem (by omega))
                have hco : chainOk Q p i = match nth ps (q + i) with | some qq => decide (qq.number = p.number ∧ qq.part = i ∧ qq.left + 48 * i = p.left) | none => false := by
                  rw [chainOk, List.getElem?_eq_getElem (by omega), ← nth_eq (by omega), hns]
                  cases nth ps (q + i) <;> rfl
                rw [hns] at hts
                have lA := get_lt gA
                have gA2 : ∀ o, (h3.push o).get A = _ := fun o => get_push_old gA
                cases hq2 : nth ps (q + i) with
                | none =>
                  rw [hq2] at hco
                  have htl2 : tx.length ≤ 8016 := by rw [htx]; omega
                  replace fx := aI @T (aI @hq2 @partV_none)
                  (first | refine go ?_ | exact goC | skip); repeat' (first | refine gP ?_ | exact gPc | refine gN ?_ | exact gNc | (refine gI ?_ ?_ <;> intro hyp <;> first | refine goF ?_ | exact goFc | refine goT ?_ | exact goTc | skip))
                  exact lp_n ⟨_, by omega, i + 1, _, false, _, _, _, _, _, _, _, _, _, _, _, rfl, by omega, by push_cast; rfl, by simp, fun _ => bad i hiC w2 hco, by rw [hRA]; exact gA2 _, fA.trans ((Fr.refl _ _).push _)⟩
                | some qq =>
                  rw [hq2] at hco hts
                  obtain ⟨m1, m2, m3, m4, m5⟩ := hm qq hq2
                  have htl2 : tx.length ≤ 8016 := by rw [htx]; omega
                  replace fx := aI @T (aI @hq2 (aI @partV_some @gA2))
                  (first | refine go ?_ | exact goC | skip); repeat' (first | refine gP ?_ | exact gPc | refine gN ?_ | exact gNc | (refine gI ?_ ?_ <;> intro hyp <;> first | refine goF ?_ | exact goFc | refine goT ?_ | exact goTc | skip))
                  all_goals
                    refine lp_n ⟨_, by omega, i + 1, tx ++ qq.pay, _, _, _, _, _, _, _, _, _, _, _, _, rfl, by omega, by push_cast; rfl, fun e => ⟨by rw [htx]; exact hts.symm, fun i' hi' => ?_⟩, fun e => bad i hiC w2 ?_, by rw [hRA]; exact gA2 _, fA.trans ((Fr.refl _ _).push _)⟩
                    · by_cases e' : i' = i
                      · subst e'
                        rw [hco]
                        first
                          | (have := of_decide_eq_true e; exact decide_eq_true ⟨by omega, by omega, by omega⟩)
                          | (simp at e; done)
                      · exact hch i' (by omega)
                    · rw [hco]
                      first
                        | exact decide_eq_false (by rintro ⟨q1, q2, q3⟩; omega)
                        | (have := of_decide_eq_false e; exact decide_eq_false (by rintro ⟨q1, q2, q3⟩; omega))
              · have e : i = C := by omega
                subst e
                have hrs : record Q = some (p.number, i, textOf Q i) := by
                  rw [hr, if_pos]
                  simp only [Bool.and_eq_true, decide_eq_true_eq, List.all_eq_true, List.mem_range]
                  exact ⟨w1, w2, hch⟩
                have hnx := scanS_some (R := R) hrs hc1
                rw [hQ, List.drop_drop, ← hQ] at hnx
                obtain ⟨u, hu, hst⟩ := PJ3.tk.g1.strip intN
                have hct := has_n (R.map (·.1)) p.number (by simp; omega) u hu
                obtain ⟨prow, g1, g2, g3, gne⟩ := PJ3
                simp only [Jst.nums, Jst.texts] at prow g1 g2 g3 hst
                by_cases hmem : p.number ∈ R.map (·.1)
                · rw [addRec, if_pos hmem] at hnx
                  replace fx := aI @prow (aI @gA (aI @hst (aI @hct (eq_true hmem))))
                  (first | refine go ?_ | exact goC | skip); repeat' (first | refine gP ?_ | exact gPc | refine gN ?_ | exact gNc | (refine gI ?_ ?_ <;> intro hyp <;> first | refine goF ?_ | exact goFc | refine goT ?_ | exact goTc | skip))
                  exact lp_n ⟨_, by omega, q + i, t1, t3, R, _, _, _, _, _, _, _, _, _, _, _, _, _, _, _, _, _, _, _, _, _, _, _, rfl, by omega, by push_cast; rfl, by rw [hsc, hnx], by omega, ⟨prow, g1, g2, g3, gne⟩, P3, f3, u3⟩
                · rw [addRec, if_neg hmem, ← htx] at hnx
                  have lb : ∀ H, litA 0 3 1 1 false [.int .i64 0] (some [.int .i64 (p.number : Int)]) H = some (.sl [intN p.number] .none, H) := fun H => lit_none rfl rfl rfl rfl
                  have ls : ∀ H, litA 0 9 1 1 false [.str []] (some [.str tx]) H = some (.sl [strV tx] .none, H) := fun H => lit_none rfl rfl rfl rfl
                  obtain ⟨h4, e2, n2, k2, o2⟩ := append_N (bytes := 8) (ag := false) (f := intN) (y := .sl ([p.number].map intN) .none) (ys := [p.number]) intN_len (fun _ => rfl) (fun _ => rfl) lenA_sl (elems_sl intN_len) g1 (by simp; omega) (by omega) (by omega) (by omega) (by simp)
                  simp only [List.map_cons, List.map_nil] at e2
                  have lj3 := get_lt prow
                  have row4 := (o2 j lj3 (g1.ne prow (by simp))).trans prow
                  have gA4 := (o2 A (get_lt gA) (g1.ne gA (by simp))).trans gA
                  obtain ⟨RB, hRB⟩ : ∃ RB, RB = Obj.row true 0 true [.ptr r 0, .sl ((R.map (·.1) ++ [p.number]).map intN) (.own h3.next 1), .sl ((R.map (·.2)).map strV) t3, .sl (J.bad.map intN) t2, .int .i64 (J.next : Int), .int .i64 (J.fin : Int), .bool J.closed] := ⟨_, rfl⟩
                  obtain ⟨h5, hh5⟩ : ∃ h5, h5 = h4.put j (some RB) := ⟨_, rfl⟩
                  have n5 : h5.next = h4.next := by rw [hh5, put_next]
                  have row5 : h5.get j = some RB := by rw [hh5]; exact get_put_old row4
                  have o5 : ∀ i, i ≠ j → h5.get i = h4.get i := fun i hi => by rw [hh5, get_put_ne hi]
                  have g3' : GrN h5 9 1 (R.map (·.2)) t3 := g3.keep fun i hg _ => by
                    rw [o5 i (by rintro rfl; rw [prow] at hg; simp at hg)]; exact (o2 i (get_lt hg) (g1.ne hg (by simp))).trans hg
                  obtain ⟨h6, e3, n6, k6, o6⟩ := append_N (bytes := 16) (ag := false) (f := strV) (y := .sl ([tx].map strV) .none) (ys := [tx]) strV_len (fun _ => rfl) (fun _ => rfl) lenA_sl (elems_sl strV_len) g3' (by simp; omega) (by omega) (by omega) (by omega) (by simp)
                  simp only [List.map_cons, List.map_nil, strV_eq] at e3
                  have row6 := (o6 j (get_lt row5) (g3'.ne row5 (by rw [hRB]; simp))).trans row5
                  have kk : h6.get h3.next = some (.tok 3) := by
                    have k5 : h5.get h3.next = some (.tok 3) := (o5 _ (by omega)).trans k2
                    exact (o6 _ (get_lt k5) (g3'.ne k5 (by simp))).trans k5
                  replace fx := aI @prow (aI @gA (aI @hst (aI @hct (aI (eq_false hmem) (aI @lb (aI @e2 (aI @row4 @gA4)))))))
                  (first | refine go ?_ | exact goC | skip); repeat' (first | refine gP ?_ | exact gPc | refine gN ?_ | exact gNc | (refine gI ?_ ?_ <;> intro hyp <;> first | refine goF ?_ | exact goFc | refine goT ?_ | exact goTc | skip))
                  rw [← hRB, ← hh5]
                  rw [hRB] at row5 row6
                  replace fx := aI @row5 (aI @e3 @row6)
                  (first | refine go ?_ | exact goC | skip); repeat' (first | refine gP ?_ | exact gPc | refine gN ?_ | exact gNc | (refine gI ?_ ?_ <;> intro hyp <;> first | refine goF ?_ | exact goFc | refine goT ?_ | exact goTc | skip))
                  have hre : { J with recs := R ++ [(p.number, tx)] }.nums = R.map (·.1) ++ [p.number] := by simp [Jst.nums]
                  have hte : { J with recs := R ++ [(p.number, tx)] }.texts = R.map (·.2) ++ [tx] := by simp [Jst.texts]
                  have hu1 : ∀ i s, t1 = .own i s → h.next ≤ i := fun i s e => u3 i (.inr (.inl ⟨s, e⟩))
                  have hu2 : ∀ i s, t2 = .own i s → h.next ≤ i := fun i s e => u3 i (.inr (.inr (.inl ⟨s, e⟩)))
                  have hu3 : ∀ i s, t3 = .own i s → h.next ≤ i := fun i s e => u3 i (.inr (.inr (.inr ⟨s, e⟩)))
                  have hgo : ∀ (x : Option Abs.Obj) i, i < h3.next → i ≠ j → (∀ s, t1 ≠ .own i s) → (∀ s, t3 ≠ .own i s) → (h6.put j x).get i = h3.get i := fun x i q1 q2 q3 q4 => by
                    rw [get_put_ne q2, o6 i (by omega) (fun i' s' e => by rintro rfl; exact q4 _ e), o5 i q2, o2 i q1 (fun i' s' e => by rintro rfl; exact q3 _ e)]
                  have lP := P.lt
                  have hf3 := f3.1
                  refine lp_n ⟨_, by omega, q + i, .own h3.next 1, .own h5.next 1, R ++ [(p.number, tx)], _, _, _, _, _, _, _, _, _, _, _, _, _, _, _, _, _, _, _, _, _, _, _, rfl, by omega, by push_cast; rfl, by rw [hsc, hnx], by simp; omega, ⟨by rw [hre, hte]; exact get_put_old row6, ⟨?_, ?_, ?_, ?_⟩⟩, P3.fr (S := fun i => i = j ∨ (∃ s, t1 = .own i s) ∨ ∃ s, t3 = .own i s) ⟨by rw [put_next]; omega, fun i q1 q2 => hgo _ i q1 (fun e => q2 (.inl e)) (fun s e => q2 (.inr (.inl ⟨s, e⟩))) (fun s e => q2 (.inr (.inr ⟨s, e⟩)))⟩ ?_, ⟨by rw [put_next]; omega, fun i q1 _ => ?_⟩, ?_⟩
                  · exact .inr ⟨_, rfl, by rw [get_put_ne (by omega)]; exact kk⟩
                  · refine g2.keep fun i hg ⟨s, e⟩ => (hgo _ i (get_lt hg) (by rintro rfl; rw [prow] at hg; simp at hg) (fun s' e' => gne i s' s e' e) (fun s' e' => g3.ne hg (by simp) _ _ e' rfl)).trans hg
                  · exact .inr ⟨_, rfl, by rw [get_put_ne (by omega)]; exact k6⟩
                  · intro i s s' e e'
                    simp only [Tok.own.injEq] at e
                    have := g2.lt e'
                    omega
                  · rintro i hi (rfl | ⟨s, e⟩ | ⟨s, e⟩)
                    · have := lP _ hi; omega
                    · have := lP _ hi; have := hu1 _ _ e; omega
                    · have := lP _ hi; have := hu3 _ _ e; omega
                  · rw [hgo _ i (by omega) (by omega) (fun s e => by have := hu1 _ _ e; omega) (fun s e => by have := hu3 _ _ e; omega)]
                    exact f3.2 i q1 (fun q => q)
                  · rintro i (rfl | ⟨s, e⟩ | ⟨s, e⟩ | ⟨s, e⟩)
                    · omega
                    · simp only [Tok.own.injEq] at e; omega
                    · exact hu2 _ _ e
                    · simp only [Tok.own.injEq] at e; omega
          · have hrn : record Q = none := by
              rw [hr, if_neg]
              simp only [Bool.and_eq_true, decide_eq_true_eq]
              exact fun q => hw0 ⟨q.1, q.2.1⟩
            have hnx := scanS_none (R := R) hdn hrn
            rw [hQ, List.drop_drop, ← hQ] at hnx
            replace fx := aI @hpq (aI @partV_some @hc)
            (first | refine go ?_ | exact goC | skip); repeat' (first | refine gP ?_ | exact gPc | refine gN ?_ | exact gNc | (refine gI ?_ ?_ <;> intro hyp <;> first | refine goF ?_ | exact goFc | refine goT ?_ | exact goTc | skip))
            all_goals
              refine w_loop_once ?_
              replace fx := Dum_eq
              (first | refine go ?_ | exact goC | skip); repeat' (first | refine gP ?_ | exact gPc | refine gN ?_ | exact gNc | (refine gI ?_ ?_ <;> intro hyp <;> first | refine goF ?_ | exact goFc | refine goT ?_ | exact goTc | skip))
              exact lp_n ⟨_, by omega, q + 1, t1, t3, R, _, _, _, _, _, _, _, _, _, _, _, _, _, _, _, _, _, _, _, _, _, _, _, rfl, by omega, by push_cast; rfl, by rw [hsc, hnx], by omega, PJ1.fr (hpush _) (fun _ _ q => q), P2.fr (hpush _) (fun _ _ q => q), f2.trans (hpush _), u3⟩
      · have e : q = D.s.length := by omega
        subst e
        have hR : scanS ps 0 [] = R := by rw [hsc, List.drop_eq_nil_of_le (by omega)]; rfl
        have hop2 : openJ (conts D) = { J with recs := R } := by rw [hop, hR]
        replace fx := Dum_eq
        (first | refine go ?_ | exact goC | skip); repeat' (first | refine gP ?_ | exact gPc | refine gN ?_ | exact gNc | (refine gI ?_ ?_ <;> intro hyp <;> first | refine goF ?_ | exact goFc | refine goT ?_ | exact goTc | skip))
        rw [hop2]
        exact ⟨j, t1, t2, t3, rfl, PJ1, P2, f2, fun i hi => by rw [hj]; exact u3 i hi⟩
end Go.Proofs.YtjofjgflcogklaaGreatDoor

namespace Go.Proofs.YtjofjgflcogklaaGreatDoor
open Go Go.Abs Go.Sha Go.Jn
variable {h : Heap} {r s0 : Nat} {D : Dsk}
theorem rappended_c {j : Nat} {t1 t2 t3 : Tok} {J : Jst} (P : RJ h j r t1 t2 t3 J) (Q : RD h r s0 D) (sep : ∀ i, JS j t1 t2 t3 i → ¬ RS r s0 i) (ok : JOk J D.s.length) (t : Bs) (ht : t.length ≤ 100000) :
    CV F 30 [.ptr j 0, .str t] h (fun v h' => v = .tup [.int .i64 (appendJ J D t).1.1, .int .i64 (appendJ J D t).1.2] ∧ RD h' r s0 (appendJ J D t).2.2 ∧ Fr (fun i => JS j t1 t2 t3 i ∨ RS r s0 i) h h' ∧
      ∃ t1' t3', RJ h' j r t1' t2 t3' (appendJ J D t).2.1 ∧ ∀ i, JS j t1' t2 t3' i → JS j t1 t2 t3 i ∨ h.next ≤ i) := by
  refine CV_wp (fn := c30) rfl ?_
  dsimp only [oT, oN, oV, oG, oW, c30]
  have prow := P.row
  have hl := Q.ok.len
  obtain ⟨k1, k2, k3, k4, k5, k6⟩ := ok
  cases hc : J.closed with
  | true =>
    have e : appendJ J D t = ((0, 21), (J, D)) := by unfold appendJ; rw [if_pos hc]
    rw [hc] at prow
    replace fx := @prow
    (first | refine go ?_ | exact goC | skip); repeat' (first | refine gP ?_ | exact gPc | refine gN ?_ | exact gNc | (refine gI ?_ ?_ <;> intro hyp <;> first | refine goF ?_ | exact goFc | refine goT ?_ | exact goTc | skip))
    rw [e]
    exact ⟨rfl, Q, Fr.refl _ _, t1, t3, P, fun i q => .inl q⟩
  | false =>
    by_cases h2 : 8000 < t.length ∨ 4096 < J.next
    · have e : appendJ J D t = ((0, 4), (J, D)) := by unfold appendJ; rw [if_neg (by simp [hc]), if_pos h2]
      rw [hc] at prow
      replace fx := @prow
      (first | refine go ?_ | exact goC | skip); repeat' (first | refine gP ?_ | exact gPc | refine gN ?_ | exact gNc | (refine gI ?_ ?_ <;> intro hyp <;> first | refine goF ?_ | exact goFc | refine goT ?_ | exact goTc | skip))
      all_goals
        rw [e]
        exact ⟨rfl, Q, Fr.refl _ _, t1, t3, P, fun i q => .inl q⟩
    · have hct := rcount_v t.length
      have hrm := cv_rw (rroom_c P Q k3)
      by_cases h3 : (D.s.length : Int) - (J.fin : Int) < (count t.length : Int)
      · have e : appendJ J D t = ((0, 20), (J, D)) := by unfold appendJ; rw [if_neg (by simp [hc]), if_neg h2, if_pos h3]
        rw [hc] at prow
        replace fx := aI @prow (aI @hct @hrm)
        (first | refine go ?_ | exact goC | skip); repeat' (first | refine gP ?_ | exact gPc | refine gN ?_ | exact gNc | (refine gI ?_ ?_ <;> intro hyp <;> first | refine goF ?_ | exact goFc | refine goT ?_ | exact goTc | skip))
        rw [e]
        exact ⟨rfl, Q, Fr.refl _ _, t1, t3, P, fun i q => .inl q⟩
      · have e0 := appendJ_go hc h2 h3
        have hpk := rpack_v J.next t (by omega)
        have hpv : packV J.next t = .tup [.sl ((pack J.next t).map strV) .none, .int .i64 0] := by unfold packV; rw [if_neg (by omega), if_neg (by omega), Int.toNat_natCast]; rfl
        rw [hpv] at hpk
        have hpl := pack_len J.next t
        have hp64 : ∀ s ∈ pack J.next t, s.length ≤ 1000000 := by
          intro s hs
          simp only [pack, List.mem_map] at hs
          obtain ⟨k, _, rfl⟩ := hs
          rw [sector_len]; omega
        have hcl := count_le t.length
        obtain ⟨l, hll⟩ : ∃ l, l = pack J.next t := ⟨_, rfl⟩
        rw [← hll] at e0 hpk hpl hp64
        rw [hc] at prow
        have pp : ∀ x y, ((h.put j (some x)).put j y).get j = y := fun x y => get_put_old (get_put_old prow)
        replace fx := aI @prow (aI @hct (aI @hrm @hpk))
        (first | refine go ?_ | exact goC | skip); repeat' (first | refine gP ?_ | exact gPc | refine gN ?_ | exact gNc | (refine gI ?_ ?_ <;> intro hyp <;> first | refine goF ?_ | exact goFc | refine goT ?_ | exact goTc | skip))
        obtain ⟨J1, hJ1⟩ : ∃ J1 : Jst, J1 = { J with next := J.next + 1, fin := J.fin + count t.length } := ⟨_, rfl⟩
        have jn1 : J1.next = J.next + 1 := by rw [hJ1]
        have jf1 : J1.fin = J.fin + count t.length := by rw [hJ1]
        have jc1 : J1.closed = false := by rw [hJ1]; exact hc
        have jr1 : J1.recs = J.recs := by rw [hJ1]
        have jb1 : J1.bad = J.bad := by rw [hJ1]
        have jN1 : J1.nums = J.nums := by rw [Jst.nums, jr1]; rfl
        have jT1 : J1.texts = J.texts := by rw [Jst.texts, jr1]; rfl
        obtain ⟨g1, g2, g3, gne⟩ := P.tk
        obtain ⟨hA, hhA⟩ : ∃ hA, hA = (h.put j (some (.row true 0 true [.ptr r 0, .sl (J.nums.map intN) t1, .sl (J.texts.map strV) t3, .sl (J.bad.map intN) t2, .int .i64 ((J.next : Int) + 1), .int .i64 (J.fin : Int), .bool false]))).put j (some (.row true 0 true [.ptr r 0, .sl (J.nums.map intN) t1, .sl (J.texts.map strV) t3, .sl (J.bad.map intN) t2, .int .i64 ((J.next : Int) + 1), .int .i64 ((J.fin : Int) + (l.length : Int)), .bool false])) := ⟨_, rfl⟩
        have fA : Fr (fun i => i = j) h hA := by rw [hhA]; exact (fr_j _ _ _).trans (fr_j _ _ _)
        have rowA : hA.get j = some (.row true 0 true [.ptr r 0, .sl (J1.nums.map intN) t1, .sl (J1.texts.map strV) t3, .sl (J1.bad.map intN) t2, .int .i64 (J1.next : Int), .int .i64 (J1.fin : Int), .bool J1.closed]) := by
          rw [hhA, get_put_old (get_put_old prow), jn1, jf1, jc1, jb1, jN1, jT1, hpl, Int.natCast_add, Int.natCast_add]; rfl
        have ntj : ∀ i, TS t1 t2 t3 i → i ≠ j := by
          rintro i (⟨s, e⟩ | ⟨s, e⟩ | ⟨s, e⟩) rfl
          · exact g1.ne prow (by simp) _ _ e rfl
          · exact g2.ne prow (by simp) _ _ e rfl
          · exact g3.ne prow (by simp) _ _ e rfl
        have TA : JT hA t1 t2 t3 J1 := by
          have := P.tk.fr fA (fun i q e => ntj i q e)
          exact ⟨by rw [jN1]; exact this.g1, by rw [jb1]; exact this.g2, by rw [jT1]; exact this.g3, gne⟩
        have PA : RJ hA j r t1 t2 t3 J1 := ⟨rowA, TA⟩
        have QA := Q.fr fA (fun i hi e => sep i (.inl e) hi)
        have nA : hA.next = h.next := by rw [hhA, put_next, put_next]
        rw [← hhA]
        obtain ⟨W, hW⟩ : ∃ W, W = writeJ D J.fin l := ⟨_, rfl⟩
        rw [← hJ1, ← hW] at e0
        refine w_loop (fun q vs h' => ∃ (k : Nat) (E : Dsk) (x1 x2 x3 x4 x5 x6 x7 x8 x9 x10 : AVal), q = l.length - k ∧ k ≤ l.length ∧ vs = [.ptr j 0, .str t, .int .i64 0, .int .i64 0, .int .i64 (J.next : Int), .int .i64 (J.fin : Int), .sl (l.map strV) .none, .int .i64 (k : Int), x1, .tup [], .tup [], .tup [], .tup [], .tup [], x2, x3, x4, x5, x6, x7, x8, x9, x10] ∧
            wrAll D J.fin l = wrAll E (J.fin + k) (l.drop k) ∧ RD h' r s0 E ∧ Fr (RS r s0) hA h') l.length
          ⟨0, D, _, _, _, _, _, _, _, _, _, _, rfl, by omega, rfl, rfl, QA, Fr.refl _ _⟩ ?_
        rintro q vs h1 ⟨k, E, x1, x2, x3, x4, x5, x6, x7, x8, x9, x10, rfl, hk, rfl, hw, Q1, f1⟩
        obtain ⟨row1, T1⟩ := PA.fr f1 sep
        by_cases hkl : k < l.length
        · have hsk := hp64 _ (nth_mem hkl)
          have hd := wrAll_drop (D := E) (a := J.fin + k) hkl
          have ec : (J.fin : Int) + (k : Int) = ((J.fin + k : Nat) : Int) := (Int.natCast_add _ _).symm
          replace fx := aI @row1 @strV_eq
          (first | refine go ?_ | exact goC | skip); repeat' (first | refine gP ?_ | exact gPc | refine gN ?_ | exact gNc | (refine gI ?_ ?_ <;> intro hyp <;> first | refine goF ?_ | exact goFc | refine goT ?_ | exact goTc | skip))
          rw [ec]
          refine CV_mono (rwrite_c Q1 _ _ (by omega)) ?_
          rintro v h2 ⟨rfl, Q2, f2⟩
          have f12 := f1.trans f2
          by_cases hz : (E.write ((J.fin + k : Nat) : Int) (nth l k)).1 = 0
          · rw [if_pos hz] at hd
            replace fx := @hz
            (first | refine go ?_ | exact goC | skip); repeat' (first | refine gP ?_ | exact gPc | refine gN ?_ | exact gNc | (refine gI ?_ ?_ <;> intro hyp <;> first | refine goF ?_ | exact goFc | refine goT ?_ | exact goTc | skip))
            exact lp_n ⟨_, by omega, k + 1, _, _, _, _, _, _, _, _, _, _, _, rfl, by omega, by push_cast; rfl, by rw [hw, hd]; rfl, Q2, f12⟩
          · rw [if_neg hz] at hd
            have e1 : W = (((E.write ((J.fin + k : Nat) : Int) (nth l k)).1, false), (E.write ((J.fin + k : Nat) : Int) (nth l k)).2) := by
              rw [hW]; unfold writeJ; rw [hw, hd, if_neg hz]
            rw [e1, if_neg hz] at e0
            obtain ⟨row2, T2⟩ := PA.fr f12 sep
            have F2 : Fr (fun i => JS j t1 t2 t3 i ∨ RS r s0 i) h h2 := (fA.mono (fun i _ e => .inl (.inl e))).trans (f12.mono (fun i _ e => .inr e))
            obtain ⟨J2, hJ2⟩ : ∃ J2 : Jst, J2 = { J with next := J.next + 1, fin := J.fin + count t.length, closed := true } := ⟨_, rfl⟩
            rw [← hJ2] at e0
            have jN2 : J2.nums = J1.nums := by rw [jN1, hJ2]; rfl
            have jT2 : J2.texts = J1.texts := by rw [jT1, hJ2]; rfl
            have jb2 : J2.bad = J1.bad := by rw [hJ2, jb1]
            have jo2 : J2.next = J1.next ∧ J2.fin = J1.fin ∧ J2.closed = true := by rw [hJ2, hJ1]; exact ⟨rfl, rfl, rfl⟩
            replace fx := aI @hz @row2
            (first | refine go ?_ | exact goC | skip); repeat' (first | refine gP ?_ | exact gPc | refine gN ?_ | exact gNc | (refine gI ?_ ?_ <;> intro hyp <;> first | refine goF ?_ | exact goFc | refine goT ?_ | exact goTc | skip))
            rw [e0]
            refine ⟨rfl, Q2.fr (fr_j _ _ _) (fun i hi e => sep i (.inl e) hi), F2.trans ?_, t1, t3, ⟨?_, ?_⟩, fun i q => .inl q⟩
            · exact (fr_j _ _ _).mono (fun i _ e => .inl (.inl e))
            · show _ = some (Obj.row true 0 true [.ptr r 0, .sl (J2.nums.map intN) t1, .sl (J2.texts.map strV) t3, .sl (J2.bad.map intN) t2, .int .i64 (J2.next : Int), .int .i64 (J2.fin : Int), .bool J2.closed])
              rw [jN2, jT2, jb2, jo2.1, jo2.2.1, jo2.2.2]
              exact get_put_old row2
            · have := T2.fr (fr_j h2 j (some (.row true 0 true [.ptr r 0, .sl (J1.nums.map intN) t1, .sl (J1.texts.map strV) t3, .sl (J1.bad.map intN) t2, .int .i64 (J1.next : Int), .int .i64 (J1.fin : Int), .bool true]))) (fun i q e => ntj i q e)
              show JT _ t1 t2 t3 J2
              exact ⟨by rw [jN2]; exact this.g1, by rw [jb2]; exact this.g2, by rw [jT2]; exact this.g3, this.ne⟩
        · have e : k = l.length := by omega
          subst e
          have hwd : wrAll D J.fin l = (0, E) := by rw [hw, List.drop_eq_nil_of_le (by omega)]; rfl
          replace fx := @row1
          (first | refine go ?_ | exact goC | skip); repeat' (first | refine gP ?_ | exact gPc | refine gN ?_ | exact gNc | (refine gI ?_ ?_ <;> intro hyp <;> first | refine goF ?_ | exact goFc | refine goT ?_ | exact goTc | skip))
          refine CV_mono (rflush_c Q1) ?_
          rintro v h2 ⟨rfl, Q2, f2⟩
          have f12 := f1.trans f2
          obtain ⟨row2, T2⟩ := PA.fr f12 sep
          have F2 : Fr (fun i => JS j t1 t2 t3 i ∨ RS r s0 i) h h2 := (fA.mono (fun i _ e => .inl (.inl e))).trans (f12.mono (fun i _ e => .inr e))
          by_cases hz : E.flush.1 = 0
          · have e1 : W = (rdAll E.flush.2 J.fin l true, E.flush.2) := by
              rw [hW]; unfold writeJ; rw [hwd, if_pos rfl, if_pos hz]
            obtain ⟨G, hG⟩ : ∃ G, G = E.flush.2 := ⟨_, rfl⟩
            rw [← hG] at e1 Q2
            replace fx := @hz
            (first | refine go ?_ | exact goC | skip); repeat' (first | refine gP ?_ | exact gPc | refine gN ?_ | exact gNc | (refine gI ?_ ?_ <;> intro hyp <;> first | refine goF ?_ | exact goFc | refine goT ?_ | exact goTc | skip))
            refine w_loop (fun q vs h' => ∃ (k : Nat) (rr : Bool) (x30 x31 x32 x33 x34 x35 x36 x37 x38 x39 x40 x41 x42 : AVal), q = l.length - k ∧ k ≤ l.length ∧ vs = [.ptr j 0, .str t, .int .i64 0, .int .i64 0, .int .i64 (J.next : Int), .int .i64 (J.fin : Int), .sl (l.map strV) .none, x30, x31, x32, .bool rr, .int .i64 (k : Int), x33, x34, x35, x36, x37, x38, x39, x40, x41, x42, x10] ∧
                rdAll G J.fin l true = rdAll G (J.fin + k) (l.drop k) rr ∧ RD h' r s0 G ∧ Fr (RS r s0) hA h') l.length
              ⟨0, true, _, _, _, _, _, _, _, _, _, _, _, _, _, rfl, by omega, rfl, rfl, Q2, f12⟩ ?_
            clear row1 T1 f1 Q1 f2 Q2 f12 row2 T2 F2
            rintro q vs h3 ⟨k, rr, x30, x31, x32, x33, x34, x35, x36, x37, x38, x39, x40, x41, x42, rfl, hk, rfl, hw2, Q1, f1⟩
            obtain ⟨row1, T1⟩ := PA.fr f1 sep
            by_cases hkl : k < l.length
            · have hd := rdAll_drop (D := G) (a := J.fin + k) (r := rr) hkl
              have ec : (J.fin : Int) + (k : Int) = ((J.fin + k : Nat) : Int) := (Int.natCast_add _ _).symm
              have rd := cv_rw (rread_c Q1 ((J.fin + k : Nat) : Int))
              replace fx := aI @row1 @strV_eq
              (first | refine go ?_ | exact goC | skip); repeat' (first | refine gP ?_ | exact gPc | refine gN ?_ | exact gNc | (refine gI ?_ ?_ <;> intro hyp <;> first | refine goF ?_ | exact goFc | refine goT ?_ | exact goTc | skip))
              rw [ec, rd]
              by_cases hz : (G.read ((J.fin + k : Nat) : Int)).2 = 0
              · rw [if_pos hz] at hd
                cases rr with
                | true =>
                  rw [Bool.true_and] at hd
                  replace fx := aI @hz @strV_eq
                  (first | refine go ?_ | exact goC | skip); repeat' (first | refine gP ?_ | exact gPc | refine gN ?_ | exact gNc | (refine gI ?_ ?_ <;> intro hyp <;> first | refine goF ?_ | exact goFc | refine goT ?_ | exact goTc | skip))
                  have ed : decide (nth l k = (G.read ((J.fin + k : Nat) : Int)).1) = decide ((G.read ((J.fin + k : Nat) : Int)).1 = nth l k) := decide_eq_decide.2 eq_comm
                  rw [ed] at hd
                  exact lp_n ⟨_, by omega, k + 1, _, _, _, _, _, _, _, _, _, _, _, _, _, _, rfl, by omega, by push_cast; rfl, by rw [hw2, hd]; rfl, Q1, f1⟩
                | false =>
                  rw [Bool.false_and] at hd
                  replace fx := aI @hz @strV_eq
                  (first | refine go ?_ | exact goC | skip); repeat' (first | refine gP ?_ | exact gPc | refine gN ?_ | exact gNc | (refine gI ?_ ?_ <;> intro hyp <;> first | refine goF ?_ | exact goFc | refine goT ?_ | exact goTc | skip))
                  exact lp_n ⟨_, by omega, k + 1, _, _, _, _, _, _, _, _, _, _, _, _, _, _, rfl, by omega, by push_cast; rfl, by rw [hw2, hd]; rfl, Q1, f1⟩
              · rw [if_neg hz] at hd
                rw [hw2, hd] at e1
                rw [e1, if_neg hz] at e0
                obtain ⟨h2, hh2⟩ : ∃ h2, h2 = h3 := ⟨_, rfl⟩
                rw [← hh2] at row1 T1 Q1 f1 ⊢
                have row2 := row1
                have T2 := T1
                have Q2 := Q1
                have F2 : Fr (fun i => JS j t1 t2 t3 i ∨ RS r s0 i) h h2 := (fA.mono (fun i _ e => .inl (.inl e))).trans (f1.mono (fun i _ e => .inr e))
                obtain ⟨J2, hJ2⟩ : ∃ J2 : Jst, J2 = { J with next := J.next + 1, fin := J.fin + count t.length, closed := true } := ⟨_, rfl⟩
                rw [← hJ2] at e0
                have jN2 : J2.nums = J1.nums := by rw [jN1, hJ2]; rfl
                have jT2 : J2.texts = J1.texts := by rw [jT1, hJ2]; rfl
                have jb2 : J2.bad = J1.bad := by rw [hJ2, jb1]
                have jo2 : J2.next = J1.next ∧ J2.fin = J1.fin ∧ J2.closed = true := by rw [hJ2, hJ1]; exact ⟨rfl, rfl, rfl⟩
                replace fx := aI @hz @row2
                (first | refine go ?_ | exact goC | skip); repeat' (first | refine gP ?_ | exact gPc | refine gN ?_ | exact gNc | (refine gI ?_ ?_ <;> intro hyp <;> first | refine goF ?_ | exact goFc | refine goT ?_ | exact goTc | skip))
                rw [e0]
                refine ⟨rfl, Q2.fr (fr_j _ _ _) (fun i hi e => sep i (.inl e) hi), F2.trans ?_, t1, t3, ⟨?_, ?_⟩, fun i q => .inl q⟩
                · exact (fr_j _ _ _).mono (fun i _ e => .inl (.inl e))
                · show _ = some (Obj.row true 0 true [.ptr r 0, .sl (J2.nums.map intN) t1, .sl (J2.texts.map strV) t3, .sl (J2.bad.map intN) t2, .int .i64 (J2.next : Int), .int .i64 (J2.fin : Int), .bool J2.closed])
                  rw [jN2, jT2, jb2, jo2.1, jo2.2.1, jo2.2.2]
                  exact get_put_old row2
                · have := T2.fr (fr_j h2 j (some (.row true 0 true [.ptr r 0, .sl (J1.nums.map intN) t1, .sl (J1.texts.map strV) t3, .sl (J1.bad.map intN) t2, .int .i64 (J1.next : Int), .int .i64 (J1.fin : Int), .bool true]))) (fun i q e => ntj i q e)
                  show JT _ t1 t2 t3 J2
                  exact ⟨by rw [jN2]; exact this.g1, by rw [jb2]; exact this.g2, by rw [jT2]; exact this.g3, this.ne⟩
            · have e : k = l.length := by omega
              subst e
              rw [List.drop_eq_nil_of_le (by omega)] at hw2
              have hw3 : rdAll G J.fin l true = (0, rr) := hw2
              rw [hw3] at e1
              rw [e1, if_pos rfl] at e0
              have F1 : Fr (fun i => JS j t1 t2 t3 i ∨ RS r s0 i) h h3 := (fA.mono (fun i _ e => .inl (.inl e))).trans (f1.mono (fun i _ e => .inr e))
              cases rr with
              | false =>
                rw [if_neg (by simp)] at e0
                replace fx := Dum_eq
                (first | refine go ?_ | exact goC | skip); repeat' (first | refine gP ?_ | exact gPc | refine gN ?_ | exact gNc | (refine gI ?_ ?_ <;> intro hyp <;> first | refine goF ?_ | exact goFc | refine goT ?_ | exact goTc | skip))
                rw [e0]
                exact ⟨rfl, Q1, F1, t1, t3, ⟨row1, T1⟩, fun i q => .inl q⟩
              | true =>
                rw [if_pos rfl] at e0
                obtain ⟨J2, hJ2⟩ : ∃ J2 : Jst, J2 = { J with recs := J.recs ++ [(J.next, t)], next := J.next + 1, fin := J.fin + count t.length } := ⟨_, rfl⟩
                rw [← hJ2] at e0
                have jN2 : J2.nums = J1.nums ++ [J.next] := by rw [jN1, hJ2]; simp [Jst.nums]
                have jT2 : J2.texts = J1.texts ++ [t] := by rw [jT1, hJ2]; simp [Jst.texts]
                have jb2 : J2.bad = J1.bad := by rw [hJ2, jb1]
                have jo2 : J2.next = J1.next ∧ J2.fin = J1.fin ∧ J2.closed = J1.closed := by rw [hJ2, hJ1]; exact ⟨rfl, rfl, rfl⟩
                obtain ⟨b1, b2, b3, bne⟩ := T1
                have lb : ∀ H, litA 0 3 1 1 false [.int .i64 0] (some [.int .i64 (J.next : Int)]) H = some (.sl [intN J.next] .none, H) := fun H => lit_none rfl rfl rfl rfl
                have ln : J1.nums.length ≤ 10000 := by rw [jN1]; simp only [Jst.nums, List.length_map]; omega
                have lt : J1.texts.length ≤ 10000 := by rw [jT1]; simp only [Jst.texts, List.length_map]; omega
                have lj3 := get_lt row1
                obtain ⟨h4, e2, n2, m2, o2⟩ := append_N (bytes := 8) (ag := false) (f := intN) (y := .sl ([J.next].map intN) .none) (ys := [J.next]) intN_len (fun _ => rfl) (fun _ => rfl) lenA_sl (elems_sl intN_len) b1 (by simp; omega) (by omega) (by omega) (by omega) (by simp)
                simp only [List.map_cons, List.map_nil] at e2
                have row4 := (o2 j lj3 (b1.ne row1 (by simp))).trans row1
                obtain ⟨RB, hRB⟩ : ∃ RB, RB = Obj.row true 0 true [.ptr r 0, .sl ((J1.nums ++ [J.next]).map intN) (.own h3.next 1), .sl (J1.texts.map strV) t3, .sl (J1.bad.map intN) t2, .int .i64 (J1.next : Int), .int .i64 (J1.fin : Int), .bool J1.closed] := ⟨_, rfl⟩
                obtain ⟨h5, hh5⟩ : ∃ h5, h5 = h4.put j (some RB) := ⟨_, rfl⟩
                have n5 : h5.next = h4.next := by rw [hh5, put_next]
                have row5 : h5.get j = some RB := by rw [hh5]; exact get_put_old row4
                have o5 : ∀ i, i ≠ j → h5.get i = h4.get i := fun i hi => by rw [hh5, get_put_ne hi]
                have g3' : GrN h5 9 1 J1.texts t3 := b3.keep fun i hg _ => by
                  rw [o5 i (by rintro rfl; rw [row1] at hg; simp at hg)]; exact (o2 i (get_lt hg) (b1.ne hg (by simp))).trans hg
                obtain ⟨h6, e3, n6, k6, o6⟩ := append_N (bytes := 16) (ag := false) (f := strV) (y := .sl ([t].map strV) .none) (ys := [t]) strV_len (fun _ => rfl) (fun _ => rfl) lenA_sl (elems_sl strV_len) g3' (by simp; omega) (by omega) (by omega) (by omega) (by simp)
                simp only [List.map_cons, List.map_nil, strV_eq] at e3
                have row6 := (o6 j (get_lt row5) (g3'.ne row5 (by rw [hRB]; simp))).trans row5
                have kk : h6.get h3.next = some (.tok 3) := by
                  have k5 : h5.get h3.next = some (.tok 3) := (o5 _ (by omega)).trans m2
                  exact (o6 _ (get_lt k5) (g3'.ne k5 (by simp))).trans k5
                replace fx := aI @row1 (aI @lb (aI @e2 @row4))
                (first | refine go ?_ | exact goC | skip); repeat' (first | refine gP ?_ | exact gPc | refine gN ?_ | exact gNc | (refine gI ?_ ?_ <;> intro hyp <;> first | refine goF ?_ | exact goFc | refine goT ?_ | exact goTc | skip))
                rw [← hRB, ← hh5]
                rw [hRB] at row5 row6
                replace fx := aI @row5 (aI @e3 @row6)
                (first | refine go ?_ | exact goC | skip); repeat' (first | refine gP ?_ | exact gPc | refine gN ?_ | exact gNc | (refine gI ?_ ?_ <;> intro hyp <;> first | refine goF ?_ | exact goFc | refine goT ?_ | exact goTc | skip))
                have hgo : ∀ (x : Option Abs.Obj) i, i < h3.next → ¬ (i = j ∨ (∃ s, t1 = .own i s) ∨ ∃ s, t3 = .own i s) → (h6.put j x).get i = h3.get i := fun x i q1 q2 => by
                  have q3 : i ≠ j := fun e => q2 (.inl e)
                  rw [get_put_ne q3, o6 i (by omega) (fun i' s' e => by rintro rfl; exact q2 (.inr (.inr ⟨_, e⟩))), o5 i q3, o2 i q1 (fun i' s' e => by rintro rfl; exact q2 (.inr (.inl ⟨_, e⟩)))]
                have hn2 := F1.1
                have FF : ∀ (x : Option Abs.Obj), Fr (JS j t1 t2 t3) h3 (h6.put j x) := fun x => ⟨by rw [put_next]; omega, fun i q1 q2 => hgo x i q1 (by
                  rintro (e | e | e)
                  · exact q2 (.inl e)
                  · exact q2 (.inr (.inl e))
                  · exact q2 (.inr (.inr (.inr e))))⟩
                rw [e0]
                refine ⟨rfl, Q1.fr (FF _) (fun i hi e => sep i e hi), F1.trans ((FF _).mono (fun i _ e => .inl e)), .own h3.next 1, .own h5.next 1, ⟨?_, ?_, ?_, ?_, ?_⟩, ?_⟩
                · show _ = some (Obj.row true 0 true [.ptr r 0, .sl (J2.nums.map intN) (.own h3.next 1), .sl (J2.texts.map strV) (.own h5.next 1), .sl (J2.bad.map intN) t2, .int .i64 (J2.next : Int), .int .i64 (J2.fin : Int), .bool J2.closed])
                  rw [jN2, jT2, jb2, jo2.1, jo2.2.1, jo2.2.2]
                  exact get_put_old row6
                · exact .inr ⟨_, rfl, by rw [get_put_ne (by omega)]; exact kk⟩
                · show GrN _ _ _ J2.bad t2
                  rw [jb2]
                  refine b2.keep fun i hg ⟨s, e⟩ => (hgo _ i (get_lt hg) ?_).trans hg
                  rintro (rfl | ⟨s', e'⟩ | ⟨s', e'⟩)
                  · rw [row1] at hg; simp at hg
                  · exact bne _ _ _ e' e
                  · exact b3.ne hg (by simp) _ _ e' rfl
                · exact .inr ⟨_, rfl, by rw [get_put_ne (by omega)]; exact k6⟩
                · intro i s s' e e'
                  simp only [Tok.own.injEq] at e
                  have := b2.lt e'
                  omega
                · rintro i (rfl | ⟨s, e⟩ | ⟨s, e⟩ | ⟨s, e⟩)
                  · exact .inl (.inl rfl)
                  · simp only [Tok.own.injEq] at e; right; omega
                  · exact .inl (.inr (.inr (.inl ⟨s, e⟩)))
                  · simp only [Tok.own.injEq] at e; right; omega
          · have e1 : W = ((E.flush.1, false), E.flush.2) := by
              rw [hW]; unfold writeJ; rw [hwd, if_pos rfl, if_neg hz]
            rw [e1, if_neg hz] at e0
            obtain ⟨J2, hJ2⟩ : ∃ J2 : Jst, J2 = { J with next := J.next + 1, fin := J.fin + count t.length, closed := true } := ⟨_, rfl⟩
            rw [← hJ2] at e0
            have jN2 : J2.nums = J1.nums := by rw [jN1, hJ2]; rfl
            have jT2 : J2.texts = J1.texts := by rw [jT1, hJ2]; rfl
            have jb2 : J2.bad = J1.bad := by rw [hJ2, jb1]
            have jo2 : J2.next = J1.next ∧ J2.fin = J1.fin ∧ J2.closed = true := by rw [hJ2, hJ1]; exact ⟨rfl, rfl, rfl⟩
            replace fx := aI @hz @row2
            (first | refine go ?_ | exact goC | skip); repeat' (first | refine gP ?_ | exact gPc | refine gN ?_ | exact gNc | (refine gI ?_ ?_ <;> intro hyp <;> first | refine goF ?_ | exact goFc | refine goT ?_ | exact goTc | skip))
            rw [e0]
            refine ⟨rfl, Q2.fr (fr_j _ _ _) (fun i hi e => sep i (.inl e) hi), F2.trans ?_, t1, t3, ⟨?_, ?_⟩, fun i q => .inl q⟩
            · exact (fr_j _ _ _).mono (fun i _ e => .inl (.inl e))
            · show _ = some (Obj.row true 0 true [.ptr r 0, .sl (J2.nums.map intN) t1, .sl (J2.texts.map strV) t3, .sl (J2.bad.map intN) t2, .int .i64 (J2.next : Int), .int .i64 (J2.fin : Int), .bool J2.closed])
              rw [jN2, jT2, jb2, jo2.1, jo2.2.1, jo2.2.2]
              exact get_put_old row2
            · have := T2.fr (fr_j h2 j (some (.row true 0 true [.ptr r 0, .sl (J1.nums.map intN) t1, .sl (J1.texts.map strV) t3, .sl (J1.bad.map intN) t2, .int .i64 (J1.next : Int), .int .i64 (J1.fin : Int), .bool true]))) (fun i q e => ntj i q e)
              show JT _ t1 t2 t3 J2
              exact ⟨by rw [jN2]; exact this.g1, by rw [jb2]; exact this.g2, by rw [jT2]; exact this.g3, this.ne⟩
end Go.Proofs.YtjofjgflcogklaaGreatDoor

namespace Go.Proofs.YtjofjgflcogklaaGreatDoor
open Go Go.Abs Go.Sha Go.Jn
variable {h : Heap}
theorem take_succ_n {α : Type} [Inhabited α] (l : List α) {i : Nat} (hi : i < l.length) : l.take (i + 1) = l.take i ++ [nth l i] := by
  rw [List.take_succ_eq_append_getElem hi, nth_eq hi]
theorem same_upto {α : Type} [Inhabited α] [DecidableEq α] {xs ys : List α} {i : Nat} (hl : xs.length = ys.length) (hi : i < xs.length) (h : xs.take i = ys.take i) (he : nth xs i = nth ys i) : xs.take (i + 1) = ys.take (i + 1) := by
  rw [take_succ_n _ hi, take_succ_n _ (by omega), h, he]
theorem sameTexts_v (xs ys : List (List UInt8)) (t t' : Tok) (hl : xs.length ≤ 1000000) : PV F 20 [.sl (xs.map strV) t, .sl (ys.map strV) t'] = some (.bool (decide (xs = ys))) := by
  refine PV_wp (fn := c20) rfl ?_
  dsimp only [oT, oN, oV, oG, oW, c20]
  by_cases hne : xs.length = ys.length
  · replace fx := Dum_eq
    (first | refine go ?_ | exact goC | skip); repeat' (first | refine gP ?_ | exact gPc | refine gN ?_ | exact gNc | (refine gI ?_ ?_ <;> intro hyp <;> first | refine goF ?_ | exact goFc | refine goT ?_ | exact goTc | skip))
    refine w_loop (fun m vs h3 => ∃ (i : Nat) (x1 x2 x3 x4 : AVal), m = xs.length - i ∧ i ≤ xs.length ∧ xs.take i = ys.take i ∧ vs = [.sl (xs.map strV) t, .sl (ys.map strV) t', x1, .int .i64 (i : Int), x2, x3, x4]) xs.length
      ⟨0, _, _, _, _, by omega, by omega, rfl, rfl⟩ ?_
    rintro m vs h3 ⟨i, x1, x2, x3, x4, rfl, hi, hS, rfl⟩
    by_cases hil : i < xs.length
    · by_cases he : nth xs i = nth ys i
      · replace fx := aI @strV_eq @he
        (first | refine go ?_ | exact goC | skip); repeat' (first | refine gP ?_ | exact gPc | refine gN ?_ | exact gNc | (refine gI ?_ ?_ <;> intro hyp <;> first | refine goF ?_ | exact goFc | refine goT ?_ | exact goTc | skip))
        exact lp_n ⟨_, by omega, i + 1, _, _, _, _, rfl, by omega, same_upto hne hil hS he, by push_cast; rfl⟩
      · replace fx := aI @strV_eq @he
        (first | refine go ?_ | exact goC | skip); repeat' (first | refine gP ?_ | exact gPc | refine gN ?_ | exact gNc | (refine gI ?_ ?_ <;> intro hyp <;> first | refine goF ?_ | exact goFc | refine goT ?_ | exact goTc | skip))
        have : ¬ xs = ys := fun e => he (by rw [e])
        simp [this]
    · have : xs = ys := by
        rw [List.take_of_length_le (by omega), List.take_of_length_le (by omega)] at hS
        exact hS
      replace fx := Dum_eq
      (first | refine go ?_ | exact goC | skip); repeat' (first | refine gP ?_ | exact gPc | refine gN ?_ | exact gNc | (refine gI ?_ ?_ <;> intro hyp <;> first | refine goF ?_ | exact goFc | refine goT ?_ | exact goTc | skip))
      simp [this]
  · have : ¬ xs = ys := fun e => hne (by rw [e])
    replace fx := Dum_eq
    (first | refine go ?_ | exact goC | skip); repeat' (first | refine gP ?_ | exact gPc | refine gN ?_ | exact gNc | (refine gI ?_ ?_ <;> intro hyp <;> first | refine goF ?_ | exact goFc | refine goT ?_ | exact goTc | skip))
    simp [this]
theorem sameInts_v (xs ys : List Nat) (t t' : Tok) (hl : xs.length ≤ 1000000) : PV F 23 [.sl (xs.map intN) t, .sl (ys.map intN) t'] = some (.bool (decide (xs = ys))) := by
  refine PV_wp (fn := c23) rfl ?_
  dsimp only [oT, oN, oV, oG, oW, c23]
  by_cases hne : xs.length = ys.length
  · replace fx := Dum_eq
    (first | refine go ?_ | exact goC | skip); repeat' (first | refine gP ?_ | exact gPc | refine gN ?_ | exact gNc | (refine gI ?_ ?_ <;> intro hyp <;> first | refine goF ?_ | exact goFc | refine goT ?_ | exact goTc | skip))
    refine w_loop (fun m vs h3 => ∃ (i : Nat) (x1 x2 x3 x4 : AVal), m = xs.length - i ∧ i ≤ xs.length ∧ xs.take i = ys.take i ∧ vs = [.sl (xs.map intN) t, .sl (ys.map intN) t', x1, .int .i64 (i : Int), x2, x3, x4]) xs.length
      ⟨0, _, _, _, _, by omega, by omega, rfl, rfl⟩ ?_
    rintro m vs h3 ⟨i, x1, x2, x3, x4, rfl, hi, hS, rfl⟩
    by_cases hil : i < xs.length
    · by_cases he : nth xs i = nth ys i
      · replace fx := aI @intN_eq @he
        (first | refine go ?_ | exact goC | skip); repeat' (first | refine gP ?_ | exact gPc | refine gN ?_ | exact gNc | (refine gI ?_ ?_ <;> intro hyp <;> first | refine goF ?_ | exact goFc | refine goT ?_ | exact goTc | skip))
        exact lp_n ⟨_, by omega, i + 1, _, _, _, _, rfl, by omega, same_upto hne hil hS he, by push_cast; rfl⟩
      · replace fx := aI @intN_eq @he
        (first | refine go ?_ | exact goC | skip); repeat' (first | refine gP ?_ | exact gPc | refine gN ?_ | exact gNc | (refine gI ?_ ?_ <;> intro hyp <;> first | refine goF ?_ | exact goFc | refine goT ?_ | exact goTc | skip))
        have : ¬ xs = ys := fun e => he (by rw [e])
        simp [this]
    · have : xs = ys := by
        rw [List.take_of_length_le (by omega), List.take_of_length_le (by omega)] at hS
        exact hS
      replace fx := Dum_eq
      (first | refine go ?_ | exact goC | skip); repeat' (first | refine gP ?_ | exact gPc | refine gN ?_ | exact gNc | (refine gI ?_ ?_ <;> intro hyp <;> first | refine goF ?_ | exact goFc | refine goT ?_ | exact goTc | skip))
      simp [this]
  · have : ¬ xs = ys := fun e => hne (by rw [e])
    replace fx := Dum_eq
    (first | refine go ?_ | exact goC | skip); repeat' (first | refine gP ?_ | exact gPc | refine gN ?_ | exact gNc | (refine gI ?_ ?_ <;> intro hyp <;> first | refine goF ?_ | exact goFc | refine goT ?_ | exact goTc | skip))
    simp [this]
def sD0 : Dsk := freshD 4
def sJ0 : Jst := openJ (conts sD0)
def sA1 : (Int × Int) × (Jst × Dsk) := appendJ sJ0 sD0 [97]
def sA2 : (Int × Int) × (Jst × Dsk) := appendJ sA1.2.1 sA1.2.2 (List.replicate 50 120)
def sR : Int × Dsk := sA2.2.2.rot 1 70
def sK : Jst := openJ (conts sR.2)
def sB1 : (Int × Int) × (Jst × Dsk) := appendJ sK sR.2 [98]
def sB2 : (Int × Int) × (Jst × Dsk) := appendJ sB1.2.1 sB1.2.2 [99]
def sP : List Bs := pack 1 [97]
instance : DecidableEq Prt := fun a b => if h : a.number = b.number ∧ a.part = b.part ∧ a.left = b.left ∧ a.pay = b.pay then .isTrue (by cases a; cases b; simp at h; simp [h]) else .isFalse (by rintro rfl; simp at h)
theorem san : (decide (sJ0.next = 1 ∧ sJ0.fin = 0) && decide (sA1.1 = (1, 0) ∧ sA2.1 = (2, 0) ∧ sA2.2.1.fin = 3) && decide (sR.1 = 0 ∧ sB1.1 = (3, 0) ∧ sB2.1.2 = 20) &&
    decide (sB2.2.1.nums = [1, 3] ∧ sB2.2.1.texts = [[97], [98]] ∧ damaged sB2.2.1 = [2] ∧ sB2.2.1.bad = [1]) && decide (sP.length = 1 ∧ unpack (nth sP 0) = some ⟨1, 0, 1, [97]⟩) &&
    (!sD0.off && !sR.2.off && decide (sA2.2.2.s.length = 4) && decide (sR.2.s.length = 4))) = true := by kernel_rfl
end Go.Proofs.YtjofjgflcogklaaGreatDoor

namespace Go.Proofs.YtjofjgflcogklaaGreatDoor
open Go Go.Abs Go.Sha Go.Jn
variable {h : Heap}
theorem repeat_v : PV F 39 [.str [120], .int .i64 50] = some (.str (List.replicate 50 120)) := by
  have c : CV F 39 [.str [120], .int .i64 50] Heap.empty (fun v _ => v = .str (List.replicate 50 120)) := CV_hand (s := repeatS) rfl (r := .str (List.replicate 50 120)) (h' := Heap.empty) (by rfl) rfl
  obtain ⟨r, h', g, rfl⟩ := c
  exact PV_of g rfl
theorem sameInts_p (xs ys : List Nat) (hl : xs.length ≤ 1000000) (u u' : Tok) (_ : Pt u) (_ : Pt u') : PV F 23 [.sl (xs.map intN) u, .sl (ys.map intN) u'] = some (.bool (decide (xs = ys))) := sameInts_v xs ys u u' hl
theorem sameTexts_p (xs ys : List Bs) (hl : xs.length ≤ 1000000) (u u' : Tok) (_ : Pt u) (_ : Pt u') : PV F 20 [.sl (xs.map strV) u, .sl (ys.map strV) u'] = some (.bool (decide (xs = ys))) := sameTexts_v xs ys u u' hl
theorem _root_.Go.Abs.Fr.past {S : Nat → Prop} {h h1 h2 : Heap} (f : Fr (fun _ => False) h h1) (g : Fr S h1 h2) (hS : ∀ i, S i → h.next ≤ i) : Fr (fun _ => False) h h2 :=
  ⟨Nat.le_trans f.1 g.1, fun j hj _ => by have := f.1; rw [g.2 j (by omega) (fun q => by have := hS j q; omega)]; exact f.2 j hj (fun q => q)⟩
theorem and_split {a b : Bool} (h : (a && b) = true) : a = true ∧ b = true := by cases a <;> cases b <;> simp_all
theorem not_true {a : Bool} (h : (!a) = true) : a = false := by cases a <;> simp_all
theorem pc_one {f : Nat} {h : Heap} {v : AVal} {xs ys : List AVal} {b : Bool} {K : AVal → Heap → Prop} (hv : Pu h v xs) (e : ∀ u u', Pt u → Pt u' → PV F f [.sl xs u, .sl ys u'] = some (.bool b)) (k : K (.bool b) h) :
    PC F f (sc (strip v) (some [.sl ys .none])) [v, .sl ys .none] h K := pc_two (w := .sl ys .none) hv (Pu.sl h ys .none) e k
theorem puI_of {h : Heap} {v : AVal} {l : List Nat} (c : ClV h v intN l) : Pu h v (l.map intN) := c.pu (fun _ => rfl) (fun _ => rfl) (fun _ => rfl)
theorem puS_of {h : Heap} {v : AVal} {l : List Bs} (c : ClV h v strV l) : Pu h v (l.map strV) := c.pu (fun _ => rfl) (fun _ => rfl) (fun _ => rfl)
theorem pack1_v : PV F 40 [.int .i64 1, .str [97]] = some (.tup [.sl (sP.map strV) .none, .int .i64 0]) := by
  rw [pack_v 1 [97] (by simp)]
  unfold packV
  rw [if_neg (by omega), if_neg (by simp)]
  rfl
theorem sP_64 : (nth sP 0).length ≤ 1000000 := by
  have h1 : 1 ≤ sP.length := by rw [sP, pack_len]; exact count_pos _ (by simp)
  rw [nth_eq (by omega)]
  simp [sP, pack, sector_len]
theorem sanity_c (h : Heap) : CV F 7 [] h (fun v h' => v = .bool true ∧ Fr (fun _ => False) h h') := by
  obtain ⟨S, q6⟩ := and_split san
  obtain ⟨S, q5⟩ := and_split S
  obtain ⟨S, q4⟩ := and_split S
  obtain ⟨S, q3⟩ := and_split S
  obtain ⟨q1, q2⟩ := and_split S
  obtain ⟨q6, s18⟩ := and_split q6
  obtain ⟨q6, s17⟩ := and_split q6
  obtain ⟨s15, s16⟩ := and_split q6
  have s15 := not_true s15
  have s16 := not_true s16
  have s17 := of_decide_eq_true s17
  have s18 := of_decide_eq_true s18
  obtain ⟨s1, s2⟩ := of_decide_eq_true q1
  obtain ⟨s3, s4, s5⟩ := of_decide_eq_true q2
  obtain ⟨s6, s7, s8⟩ := of_decide_eq_true q3
  obtain ⟨s9, s10, s11, s12⟩ := of_decide_eq_true q4
  obtain ⟨s13, s14⟩ := of_decide_eq_true q5
  clear S q1 q2 q3 q4 q5 q6
  refine CV_wp (fn := c7) rfl ?_
  dsimp only [oT, oN, oV, oG, oW, c7]
  have pn : ∀ i o, binA .eql .ptr (.ptr i o) .nilptr = some (.bool false) := fun _ _ => rfl
  have d0 : freshD (Int.toNat 4) = sD0 := rfl
  have l0 : sD0.s.length = 4 := rfl
  obtain ⟨D0, hD0⟩ : ∃ D, D = sD0 := ⟨_, rfl⟩
  obtain ⟨J0, hJ0⟩ : ∃ J, J = sJ0 := ⟨_, rfl⟩
  obtain ⟨A1, hA1⟩ : ∃ A, A = sA1 := ⟨_, rfl⟩
  obtain ⟨A2, hA2⟩ : ∃ A, A = sA2 := ⟨_, rfl⟩
  obtain ⟨R, hR⟩ : ∃ A, A = sR := ⟨_, rfl⟩
  obtain ⟨K, hK⟩ : ∃ A, A = sK := ⟨_, rfl⟩
  obtain ⟨B1, hB1⟩ : ∃ A, A = sB1 := ⟨_, rfl⟩
  obtain ⟨B2, hB2⟩ : ∃ A, A = sB2 := ⟨_, rfl⟩
  obtain ⟨Pk, hPk⟩ : ∃ A, A = sP := ⟨_, rfl⟩
  have eJ0 : openJ (conts D0) = J0 := by rw [hD0, hJ0]; rfl
  have eA1 : appendJ J0 D0 [97] = A1 := by rw [hD0, hJ0, hA1]; rfl
  have eA2 : appendJ A1.2.1 A1.2.2 (List.replicate 50 120) = A2 := by rw [hA1, hA2]; rfl
  have eR : A2.2.2.rot 1 70 = R := by rw [hA2, hR]; rfl
  have eK : openJ (conts R.2) = K := by rw [hR, hK]; rfl
  have eB1 : appendJ K R.2 [98] = B1 := by rw [hK, hR, hB1]; rfl
  have eB2 : appendJ B1.2.1 B1.2.2 [99] = B2 := by rw [hB1, hB2]; rfl
  have ePk : pack 1 [97] = Pk := by rw [hPk]; rfl
  rw [← hD0] at d0 l0 s15
  rw [← hJ0] at s1 s2
  rw [← hA1] at s3
  rw [← hA2] at s4 s5 s17
  rw [← hR] at s6 s16 s18
  rw [← hB1] at s7
  rw [← hB2] at s8 s9 s10 s11 s12
  rw [← hPk] at s13 s14
  have hrep := repeat_v
  have hpk := pack1_v
  have h64 := sP_64
  have hc49 : count 49 = 2 := by rw [show (49 : Int) = ((49 : Nat) : Int) from rfl, count_nat 49 (by omega)]; rfl
  have hc := count_v 49
  rw [hc49] at hc
  replace hc : PV F 16 [.int .i64 49] = some (.int .i64 2) := hc
  have hxl : (List.replicate 50 (120 : UInt8)).length ≤ 100000 := by simp
  obtain ⟨X, hX⟩ : ∃ X, X = List.replicate 50 (120 : UInt8) := ⟨_, rfl⟩
  rw [← hX] at hrep hxl eA2
  rw [← hPk] at hpk h64
  clear hX hD0 hJ0 hA1 hA2 hR hK hB1 hB2 hPk
  replace fx := Dum_eq
  (first | refine go ?_ | exact goC | skip); repeat' (first | refine gP ?_ | exact gPc | refine gN ?_ | exact gNc | (refine gI ?_ ?_ <;> intro hyp <;> first | refine goF ?_ | exact goFc | refine goT ?_ | exact goTc | skip))
  refine CV_mono (new_c 4 h (by omega)) ?_
  rintro v h1 ⟨d, b, p, w, rfl, P1, f1, u1⟩
  rw [d0] at P1
  replace fx := @pn
  (first | refine go ?_ | exact goC | skip); repeat' (first | refine gP ?_ | exact gPc | refine gN ?_ | exact gNc | (refine gI ?_ ?_ <;> intro hyp <;> first | refine goF ?_ | exact goFc | refine goT ?_ | exact goTc | skip))
  refine CV_mono (open_c P1 s15) ?_
  rintro v h2 ⟨j, t1, t2, t3, rfl, J2, P2, f2, u2⟩
  rw [eJ0] at J2
  have ok2 := openJ_ok (conts D0)
  rw [conts_len, eJ0] at ok2
  have n1 := cv_rw (next_c J2)
  have r1 := cv_rw (room_c J2 P2 ok2.fin)
  rw [s1, show ((1 : Nat) : Int) = 1 from rfl] at n1
  rw [s2, l0, show ((4 : Nat) : Int) - ((0 : Nat) : Int) = 4 from rfl] at r1
  have ih1 := P1.lt
  have sep2 : ∀ i, JS j t1 t2 t3 i → ¬ PS d b p w i := fun i q q' => by have := u2 i q; have := ih1 i q'; omega
  replace fx := aI @pn (aI @n1 @r1)
  (first | refine go ?_ | exact goC | skip); repeat' (first | refine gP ?_ | exact gPc | refine gN ?_ | exact gNc | (refine gI ?_ ?_ <;> intro hyp <;> first | refine goF ?_ | exact goFc | refine goT ?_ | exact goTc | skip))
  refine CV_mono (appended_c J2 P2 sep2 ok2 _ (by simp)) ?_
  rintro v h3 ⟨rfl, P3, f3, t1', t3', J3, u3⟩
  rw [eA1] at P3 J3
  obtain ⟨ok3, sl3⟩ := appendJ_ok (t := [97]) ok2
  rw [eA1] at ok3 sl3
  rw [← sl3] at ok3
  rw [eA1, s3]
  have ih2 := P2.lt
  have sep3 : ∀ i, JS j t1' t2 t3' i → ¬ PS d b p w i := fun i q q' => by
    rcases u3 i q with e | e
    · exact sep2 i e q'
    · have := ih2 i q'; omega
  replace fx := @hrep
  (first | refine go ?_ | exact goC | skip); repeat' (first | refine gP ?_ | exact gPc | refine gN ?_ | exact gNc | (refine gI ?_ ?_ <;> intro hyp <;> first | refine goF ?_ | exact goFc | refine goT ?_ | exact goTc | skip))
  refine CV_mono (appended_c J3 P3 sep3 ok3 _ (by omega)) ?_
  rintro v h4 ⟨rfl, P4, f4, t1'', t3'', J4, u4⟩
  rw [eA2] at P4 J4
  obtain ⟨ok4, sl4⟩ := appendJ_ok (t := X) ok3
  rw [eA2] at ok4 sl4
  rw [← sl4] at ok4
  rw [eA2, s4]
  have r4 := cv_rw (room_c J4 P4 ok4.fin)
  rw [s5, s17, show ((4 : Nat) : Int) - ((3 : Nat) : Int) = 1 from rfl] at r4
  replace fx := @r4
  (first | refine go ?_ | exact goC | skip); repeat' (first | refine gP ?_ | exact gPc | refine gN ?_ | exact gNc | (refine gI ?_ ?_ <;> intro hyp <;> first | refine goF ?_ | exact goFc | refine goT ?_ | exact goTc | skip))
  refine CV_mono (rot_c P4 1 70) ?_
  rintro v h5 ⟨rfl, P5, f5⟩
  rw [eR] at P5
  rw [eR, s6]
  replace fx := Dum_eq
  (first | refine go ?_ | exact goC | skip); repeat' (first | refine gP ?_ | exact gPc | refine gN ?_ | exact gNc | (refine gI ?_ ?_ <;> intro hyp <;> first | refine goF ?_ | exact goFc | refine goT ?_ | exact goTc | skip))
  refine CV_mono (open_c P5 s16) ?_
  rintro v h6 ⟨j', y1, y2, y3, rfl, J6, P6, f6, u6⟩
  rw [eK] at J6
  have ok6 := openJ_ok (conts R.2)
  rw [conts_len, eK] at ok6
  have ih5 := P5.lt
  have sep6 : ∀ i, JS j' y1 y2 y3 i → ¬ PS d b p w i := fun i q q' => by have := u6 i q; have := ih5 i q'; omega
  replace fx := @pn
  (first | refine go ?_ | exact goC | skip); repeat' (first | refine gP ?_ | exact gPc | refine gN ?_ | exact gNc | (refine gI ?_ ?_ <;> intro hyp <;> first | refine goF ?_ | exact goFc | refine goT ?_ | exact goTc | skip))
  refine CV_mono (appended_c J6 P6 sep6 ok6 _ (by simp)) ?_
  rintro v h7 ⟨rfl, P7, f7, z1, z3, J7, u7⟩
  rw [eB1] at P7 J7
  obtain ⟨ok7, sl7⟩ := appendJ_ok (t := [98]) ok6
  rw [eB1] at ok7 sl7
  rw [← sl7] at ok7
  rw [eB1, s7]
  have ih6 := P6.lt
  have sep7 : ∀ i, JS j' z1 y2 z3 i → ¬ PS d b p w i := fun i q q' => by
    rcases u7 i q with e | e
    · exact sep6 i e q'
    · have := ih6 i q'; omega
  replace fx := Dum_eq
  (first | refine go ?_ | exact goC | skip); repeat' (first | refine gP ?_ | exact gPc | refine gN ?_ | exact gNc | (refine gI ?_ ?_ <;> intro hyp <;> first | refine goF ?_ | exact goFc | refine goT ?_ | exact goTc | skip))
  refine CV_mono (appended_c J7 P7 sep7 ok7 _ (by simp)) ?_
  rintro v h8 ⟨rfl, P8, f8, z1', z3', J8, u8⟩
  rw [eB2] at P8 J8
  obtain ⟨ok8, sl8⟩ := appendJ_ok (t := [99]) ok7
  rw [eB2] at ok8 sl8
  rw [eB2, s8]
  have hup := Unpack_v (nth Pk 0) h64
  rw [s14] at hup
  replace hup : PV F 41 [.str (nth Pk 0)] = some (.tup [.int .i64 1, .int .i64 0, .int .i64 1, .str [97], .bool true]) := hup
  have hP1 : Pk.length = 1 := s13
  have hP2 : (Pk.length : Int) = 1 := by rw [hP1]; rfl
  replace fx := aI @hpk (aI @hP2 (aI @strV_eq @hup))
  (first | refine go ?_ | exact goC | skip); repeat' (first | refine gP ?_ | exact gPc | refine gN ?_ | exact gNc | (refine gI ?_ ?_ <;> intro hyp <;> first | refine goF ?_ | exact goFc | refine goT ?_ | exact goTc | skip))
  have nl := ok8.nl
  have tl := ok8.tl
  have bl := ok8.bad
  have w1 := ok8.n1
  have w2 := ok8.n2
  have w3 := ok8.nums
  have w4 : B1.2.2.s.length ≤ 4096 := P7.ok.len
  refine CV_mono (numbers_c J8 (by omega)) ?_
  rintro v h9 ⟨c9, f9⟩
  refine GK_fr f9 ?_
  have J9 := J8.fr f9 (fun _ _ q => q)
  replace fx := Dum_eq
  (first | refine go ?_ | exact goC | skip); repeat' (first | refine gP ?_ | exact gPc | refine gN ?_ | exact gNc | (refine gI ?_ ?_ <;> intro hyp <;> first | refine goF ?_ | exact goFc | refine goT ?_ | exact goTc | skip))
  refine pc_one (ys := ([1, 3] : List Nat).map intN) (puI_of c9) (sameInts_p _ [1, 3] (by omega)) ?_
  rw [decide_eq_true s9]
  replace fx := Dum_eq
  (first | refine go ?_ | exact goC | skip); repeat' (first | refine gP ?_ | exact gPc | refine gN ?_ | exact gNc | (refine gI ?_ ?_ <;> intro hyp <;> first | refine goF ?_ | exact goFc | refine goT ?_ | exact goTc | skip))
  refine CV_mono (texts_c J9 (by omega)) ?_
  rintro v h10 ⟨c10, f10⟩
  refine GK_fr f10 ?_
  have J10 := J9.fr f10 (fun _ _ q => q)
  replace fx := Dum_eq
  (first | refine go ?_ | exact goC | skip); repeat' (first | refine gP ?_ | exact gPc | refine gN ?_ | exact gNc | (refine gI ?_ ?_ <;> intro hyp <;> first | refine goF ?_ | exact goFc | refine goT ?_ | exact goTc | skip))
  refine pc_one (ys := ([[97], [98]] : List Bs).map strV) (puS_of c10) (sameTexts_p _ [[97], [98]] (by omega)) ?_
  rw [decide_eq_true s10]
  replace fx := Dum_eq
  (first | refine go ?_ | exact goC | skip); repeat' (first | refine gP ?_ | exact gPc | refine gN ?_ | exact gNc | (refine gI ?_ ?_ <;> intro hyp <;> first | refine goF ?_ | exact goFc | refine goT ?_ | exact goTc | skip))
  refine CV_mono (damaged_c J10 (by omega) (by omega) (fun x hx => by have := w3 x hx; omega) w1) ?_
  rintro v h11 ⟨tk11, rfl, f11⟩
  refine GK_fr f11 ?_
  have J11 := J10.fr f11 (fun _ _ q => q)
  rw [s11]
  replace fx := Dum_eq
  (first | refine go ?_ | exact goC | skip); repeat' (first | refine gP ?_ | exact gPc | refine gN ?_ | exact gNc | (refine gI ?_ ?_ <;> intro hyp <;> first | refine goF ?_ | exact goFc | refine goT ?_ | exact goTc | skip))
  refine pc_one (xs := ([2] : List Nat).map intN) (ys := ([2] : List Nat).map intN) (Pu.sl _ _ _) (sameInts_p [2] [2] (by simp)) ?_
  rw [decide_eq_true rfl]
  replace fx := Dum_eq
  (first | refine go ?_ | exact goC | skip); repeat' (first | refine gP ?_ | exact gPc | refine gN ?_ | exact gNc | (refine gI ?_ ?_ <;> intro hyp <;> first | refine goF ?_ | exact goFc | refine goT ?_ | exact goTc | skip))
  refine CV_mono (bad_c J11 (by omega)) ?_
  rintro v h12 ⟨c12, f12⟩
  refine GK_fr f12 ?_
  replace fx := Dum_eq
  (first | refine go ?_ | exact goC | skip); repeat' (first | refine gP ?_ | exact gPc | refine gN ?_ | exact gNc | (refine gI ?_ ?_ <;> intro hyp <;> first | refine goF ?_ | exact goFc | refine goT ?_ | exact goTc | skip))
  refine pc_one (ys := ([1] : List Nat).map intN) (puI_of c12) (sameInts_p _ [1] (by omega)) ?_
  rw [decide_eq_true s12]
  replace fx := @hc
  (first | refine go ?_ | exact goC | skip); repeat' (first | refine gP ?_ | exact gPc | refine gN ?_ | exact gNc | (refine gI ?_ ?_ <;> intro hyp <;> first | refine goF ?_ | exact goFc | refine goT ?_ | exact goTc | skip))
  have F2 : Fr (fun _ => False) h h2 := f1.trans f2
  have v2 : ∀ i, JS j t1 t2 t3 i → h.next ≤ i := fun i q => Nat.le_trans f1.1 (u2 i q)
  have F3 : Fr (fun _ => False) h h3 := F2.past f3 (fun i q => q.elim (v2 i) (u1 i))
  have v3 : ∀ i, JS j t1' t2 t3' i → h.next ≤ i := fun i q => (u3 i q).elim (v2 i) (Nat.le_trans F2.1)
  have F4 : Fr (fun _ => False) h h4 := F3.past f4 (fun i q => q.elim (v3 i) (u1 i))
  have F5 : Fr (fun _ => False) h h5 := F4.past f5 u1
  have F6 : Fr (fun _ => False) h h6 := F5.trans f6
  have v6 : ∀ i, JS j' y1 y2 y3 i → h.next ≤ i := fun i q => Nat.le_trans F5.1 (u6 i q)
  have F7 : Fr (fun _ => False) h h7 := F6.past f7 (fun i q => q.elim (v6 i) (u1 i))
  have v7 : ∀ i, JS j' z1 y2 z3 i → h.next ≤ i := fun i q => (u7 i q).elim (v6 i) (Nat.le_trans F6.1)
  have F8 : Fr (fun _ => False) h h8 := F7.past f8 (fun i q => q.elim (v7 i) (u1 i))
  exact (((F8.trans f9).trans f10).trans f11).trans f12
end Go.Proofs.YtjofjgflcogklaaGreatDoor

namespace Go.Proofs.YtjofjgflcogklaaGreatDoor
open Go Go.Abs Go.Sha Go.Jn
theorem stpL (o : Stp) : o.val.cells.length = 6 := rfl
theorem stpT (o : Stp) : AVal.agg (List.take 6 o.val.cells) = o.val := rfl
theorem stpS (o : Stp) : setCells [.int .i64 0, .int .i64 0, .int .i64 0, .int .i64 0, .int .u8 0, .sl [] .nil] 0 o.val.cells = o.cells := rfl
theorem stpL' (o : Stp) : 6 ≤ o.cells.length := Nat.le_refl _
theorem stpT' (o : Stp) : AVal.agg (List.take 6 o.cells) = o.val := rfl
theorem Stp.strip {o : Stp} (h : o.ok) : Go.Abs.strip o.val = some o.val := by
  obtain ⟨k, i, b, s, f, pk, tk⟩ := o
  rcases h.tk with q | ⟨q, q2⟩
  · simp only at q; subst q; rfl
  · simp only at q q2; subst q; subst q2; rfl
theorem PJ_lt {h : Heap} {j d : Nat} {t1 t2 t3 : Abs.Tok} {J : Jst} (g : PJ h j d t1 t2 t3 J) : ∀ i, JS j t1 t2 t3 i → i < h.next := by
  rintro i (rfl | ⟨s, e⟩ | ⟨s, e⟩ | ⟨s, e⟩)
  · exact get_lt g.row
  · exact g.tk.g1.lt e
  · exact g.tk.g2.lt e
  · exact g.tk.g3.lt e
end Go.Proofs.YtjofjgflcogklaaGreatDoor

namespace Go.Proofs.YtjofjgflcogklaaGreatDoor
open Go Go.Abs Go.Sha Go.Jn
variable {h : Heap} {d b p w r s0 : Nat} {D : Dsk}
theorem jsame_c {j : Nat} {t1 t2 t3 : Tok} {J : Jst} (P : PJ h j d t1 t2 t3 J) (Q : PD h d b p w D) {j' : Nat} {t1' t2' t3' : Tok} (R : RJ h j' r t1' t2' t3' J) (Q' : RD h r s0 D) (ok : JOk J D.s.length) :
    CV F 14 [.ptr j 0, .ptr j' 0] h (fun v h' => v = .bool true ∧ Fr (fun _ => False) h h') := by
  have pn : ∀ i o, binA .eql .ptr (.ptr i o) .nilptr = some (.bool false) := fun _ _ => rfl
  have nl := ok.nl
  have tl := ok.tl
  have bl := ok.bad
  have w1 := ok.n1
  have w2 := ok.n2
  have w3 := ok.nums
  have w4 := Q.ok.len
  have rrow := R.row
  refine CV_wp (fn := c14) rfl ?_
  dsimp only [oT, oN, oV, oG, oW, c14]
  replace fx := aI @pn @rrow
  (first | refine go ?_ | exact goC | skip); repeat' (first | refine gP ?_ | exact gPc | refine gN ?_ | exact gNc | (refine gI ?_ ?_ <;> intro hyp <;> first | refine goF ?_ | exact goFc | refine goT ?_ | exact goTc | skip))
  refine CV_mono (numbers_c P (by omega)) ?_
  rintro v h1 ⟨c1, f1⟩
  refine GK_fr f1 ?_
  have P1 := P.fr f1 (fun _ _ q => q)
  have R1 := R.fr f1 (fun _ _ q => q)
  have Q1 := Q.fr f1 (fun _ _ q => q)
  have S1 := Q'.fr f1 (fun _ _ q => q)
  have rrow1 := R1.row
  replace fx := Dum_eq
  (first | refine go ?_ | exact goC | skip); repeat' (first | refine gP ?_ | exact gPc | refine gN ?_ | exact gNc | (refine gI ?_ ?_ <;> intro hyp <;> first | refine goF ?_ | exact goFc | refine goT ?_ | exact goTc | skip))
  refine pc_two (ys := J.nums.map intN) (puI_of c1) (Pu.sl _ _ _) (sameInts_p _ _ (by omega)) ?_
  rw [decide_eq_true rfl]
  replace fx := @rrow1
  (first | refine go ?_ | exact goC | skip); repeat' (first | refine gP ?_ | exact gPc | refine gN ?_ | exact gNc | (refine gI ?_ ?_ <;> intro hyp <;> first | refine goF ?_ | exact goFc | refine goT ?_ | exact goTc | skip))
  refine CV_mono (texts_c P1 (by omega)) ?_
  rintro v h2 ⟨c2, f2⟩
  refine GK_fr f2 ?_
  have P2 := P1.fr f2 (fun _ _ q => q)
  have R2 := R1.fr f2 (fun _ _ q => q)
  have Q2 := Q1.fr f2 (fun _ _ q => q)
  have S2 := S1.fr f2 (fun _ _ q => q)
  replace fx := Dum_eq
  (first | refine go ?_ | exact goC | skip); repeat' (first | refine gP ?_ | exact gPc | refine gN ?_ | exact gNc | (refine gI ?_ ?_ <;> intro hyp <;> first | refine goF ?_ | exact goFc | refine goT ?_ | exact goTc | skip))
  refine pc_two (ys := J.texts.map strV) (puS_of c2) (Pu.sl _ _ _) (sameTexts_p _ _ (by omega)) ?_
  rw [decide_eq_true rfl]
  replace fx := Dum_eq
  (first | refine go ?_ | exact goC | skip); repeat' (first | refine gP ?_ | exact gPc | refine gN ?_ | exact gNc | (refine gI ?_ ?_ <;> intro hyp <;> first | refine goF ?_ | exact goFc | refine goT ?_ | exact goTc | skip))
  refine CV_mono (damaged_c P2 (by omega) (by omega) (fun x hx => by have := w3 x hx; omega) w1) ?_
  rintro v h3 ⟨tk3, rfl, f3⟩
  refine GK_fr f3 ?_
  have P3 := P2.fr f3 (fun _ _ q => q)
  have R3 := R2.fr f3 (fun _ _ q => q)
  have Q3 := Q2.fr f3 (fun _ _ q => q)
  have S3 := S2.fr f3 (fun _ _ q => q)
  replace fx := Dum_eq
  (first | refine go ?_ | exact goC | skip); repeat' (first | refine gP ?_ | exact gPc | refine gN ?_ | exact gNc | (refine gI ?_ ?_ <;> intro hyp <;> first | refine goF ?_ | exact goFc | refine goT ?_ | exact goTc | skip))
  refine CV_mono (rdamaged_c R3 (by omega) (by omega) w1) ?_
  rintro v h4 ⟨tk4, rfl, f4⟩
  refine GK_fr f4 ?_
  have P4 := P3.fr f4 (fun _ _ q => q)
  have R4 := R3.fr f4 (fun _ _ q => q)
  have Q4 := Q3.fr f4 (fun _ _ q => q)
  have S4 := S3.fr f4 (fun _ _ q => q)
  have rrow4 := R4.row
  have dl : (damaged J).length ≤ 1000000 := by rw [damaged_eq]; have := missing_len J.nums J.next; omega
  replace fx := Dum_eq
  (first | refine go ?_ | exact goC | skip); repeat' (first | refine gP ?_ | exact gPc | refine gN ?_ | exact gNc | (refine gI ?_ ?_ <;> intro hyp <;> first | refine goF ?_ | exact goFc | refine goT ?_ | exact goTc | skip))
  refine pc_two (xs := (damaged J).map intN) (ys := (damaged J).map intN) (Pu.sl _ _ _) (Pu.sl _ _ _) (sameInts_p _ _ dl) ?_
  rw [decide_eq_true rfl]
  replace fx := @rrow4
  (first | refine go ?_ | exact goC | skip); repeat' (first | refine gP ?_ | exact gPc | refine gN ?_ | exact gNc | (refine gI ?_ ?_ <;> intro hyp <;> first | refine goF ?_ | exact goFc | refine goT ?_ | exact goTc | skip))
  refine CV_mono (bad_c P4 (by omega)) ?_
  rintro v h5 ⟨c5, f5⟩
  refine GK_fr f5 ?_
  have P5 := P4.fr f5 (fun _ _ q => q)
  have R5 := R4.fr f5 (fun _ _ q => q)
  have Q5 := Q4.fr f5 (fun _ _ q => q)
  have S5 := S4.fr f5 (fun _ _ q => q)
  have rrow5 := R5.row
  replace fx := Dum_eq
  (first | refine go ?_ | exact goC | skip); repeat' (first | refine gP ?_ | exact gPc | refine gN ?_ | exact gNc | (refine gI ?_ ?_ <;> intro hyp <;> first | refine goF ?_ | exact goFc | refine goT ?_ | exact goTc | skip))
  refine pc_two (ys := J.bad.map intN) (puI_of c5) (Pu.sl _ _ _) (sameInts_p _ _ (by omega)) ?_
  rw [decide_eq_true rfl]
  have n5 := cv_rw (next_c P5)
  have r5 := cv_rw (room_c P5 Q5 ok.fin)
  have r6 := cv_rw (rroom_c R5 S5 ok.fin)
  replace fx := aI @rrow5 (aI @n5 (aI @r5 @r6))
  (first | refine go ?_ | exact goC | skip); repeat' (first | refine gP ?_ | exact gPc | refine gN ?_ | exact gNc | (refine gI ?_ ?_ <;> intro hyp <;> first | refine goF ?_ | exact goFc | refine goT ?_ | exact goTc | skip))
  exact (((f1.trans f2).trans f3).trans f4).trans f5
end Go.Proofs.YtjofjgflcogklaaGreatDoor

namespace Go.Proofs.YtjofjgflcogklaaGreatDoor
open Go Go.Abs Go.Sha Go.Jn
theorem stpN (o : Stp) : o.cells.length = 6 := rfl
theorem stp0 (o : Stp) : List.take 1 o.cells = [.int .i64 o.kind] := rfl
theorem stp1 (o : Stp) : List.take 1 (List.drop 1 o.cells) = [.int .i64 o.i] := rfl
theorem stp2 (o : Stp) : List.take 1 (List.drop 2 o.cells) = [.int .i64 o.bit] := rfl
theorem stp5 (o : Stp) : List.take 1 (List.drop 5 o.cells) = [.sl (o.picks.map (.int .i64)) o.tk] := rfl
def fewS (l : List Stp) : Bool := l.all fun o => decide (o.picks.length ≤ 200)
theorem few_v (l : List Stp) (hl : ∀ o ∈ l, o.ok) (hll : l.length ≤ 9223372036854775807) (u : Tok) (hu : Pt u) : PV F 29 [.sl (l.map Stp.val) u] = some (.bool (fewS l && decide (l.length ≤ 30))) := by
  refine PV_wp (fn := c29) rfl ?_
  dsimp only [oT, oN, oV, oG, oW, c29]
  replace fx := Dum_eq
  (first | refine go ?_ | exact goC | skip); repeat' (first | refine gP ?_ | exact gPc | refine gN ?_ | exact gNc | (refine gI ?_ ?_ <;> intro hyp <;> first | refine goF ?_ | exact goFc | refine goT ?_ | exact goTc | skip))
  refine w_loop (fun m vs h => ∃ (k : Nat) (x1 x2 x3 : AVal), m = l.length - k ∧ k ≤ l.length ∧ (l.take k).all (fun o => decide (o.picks.length ≤ 200)) = true ∧ vs = [.sl (l.map Stp.val) u, .bool false, x1, .sl (l.map Stp.val) u, .int .i64 (l.length : Int), .int .i64 (k : Int), x2, x3]) l.length
    ⟨0, _, _, _, by omega, by omega, rfl, rfl⟩ ?_
  rintro m vs h ⟨k, x1, x2, x3, rfl, hk, hA, rfl⟩
  by_cases hkl : k < l.length
  · have hok := hl _ (nth_mem hkl)
    have hpl := hok.plen
    generalize hno : nth l k = o at hok hpl
    have ss := Stp.strip hok
    have sN := stpN o
    have sc5 := stp5 o
    by_cases h2 : o.picks.length ≤ 200
    · replace fx := aI @hno (aI @stpL (aI @stpT (aI @stpS (aI @stpL' (aI @stpT' (aI @sN @sc5))))))
      (first | refine go ?_ | exact goC | skip); repeat' (first | refine gP ?_ | exact gPc | refine gN ?_ | exact gNc | (refine gI ?_ ?_ <;> intro hyp <;> first | refine goF ?_ | exact goFc | refine goT ?_ | exact goTc | skip))
      exact lp_n ⟨_, by omega, k + 1, _, _, _, rfl, by omega, by
        rw [List.take_succ_eq_append_getElem hkl, List.all_append, hA, ← nth_eq hkl, hno]
        simp [h2], by push_cast; rfl⟩
    · replace fx := aI @hno (aI @stpL (aI @stpT (aI @stpS (aI @stpL' (aI @stpT' (aI @sN @sc5))))))
      (first | refine go ?_ | exact goC | skip); repeat' (first | refine gP ?_ | exact gPc | refine gN ?_ | exact gNc | (refine gI ?_ ?_ <;> intro hyp <;> first | refine goF ?_ | exact goFc | refine goT ?_ | exact goTc | skip))
      have : fewS l = false := by
        rw [Bool.eq_false_iff]
        intro q
        have := List.all_eq_true.1 q _ (nth_mem hkl)
        rw [hno] at this
        exact h2 (of_decide_eq_true this)
      rw [this]; rfl
  · rw [List.take_of_length_le (by omega)] at hA
    have : fewS l = true := hA
    replace fx := Dum_eq
    (first | refine go ?_ | exact goC | skip); repeat' (first | refine gP ?_ | exact gPc | refine gN ?_ | exact gNc | (refine gI ?_ ?_ <;> intro hyp <;> first | refine goF ?_ | exact goFc | refine goT ?_ | exact goTc | skip))
    rw [this, Bool.true_and]
    exact decide_eq_decide.2 (by omega)
structure MsI (h : Heap) (d b p w r s0 j : Nat) (t1 t2 t3 : Abs.Tok) (j' : Nat) (t1' t2' t3' : Abs.Tok) (J : Jst) (D : Dsk) : Prop where
  pd : PD h d b p w D
  rd : RD h r s0 D
  pj : PJ h j d t1 t2 t3 J
  rj : RJ h j' r t1' t2' t3' J
  ok : JOk J D.s.length
  s1 : ∀ i, PS d b p w i → ¬ RS r s0 i
  s2 : ∀ i, JS j t1 t2 t3 i → ¬ PS d b p w i
  s3 : ∀ i, JS j t1 t2 t3 i → ¬ RS r s0 i
  s4 : ∀ i, JS j' t1' t2' t3' i → ¬ PS d b p w i
  s5 : ∀ i, JS j' t1' t2' t3' i → ¬ RS r s0 i
  s6 : ∀ i, JS j t1 t2 t3 i → ¬ JS j' t1' t2' t3' i
section
variable {h h1 h2 : Heap} {d b p w r s0 j : Nat} {t1 t2 t3 : Abs.Tok} {j' : Nat} {t1' t2' t3' : Abs.Tok} {J : Jst} {D : Dsk}
theorem RJ_lt {h : Heap} {j d : Nat} {t1 t2 t3 : Abs.Tok} {J : Jst} (g : RJ h j d t1 t2 t3 J) : ∀ i, JS j t1 t2 t3 i → i < h.next := fun i q => g.lt q
theorem MsI.fr (g : MsI h d b p w r s0 j t1 t2 t3 j' t1' t2' t3' J D) (f : Fr (fun _ => False) h h1) : MsI h1 d b p w r s0 j t1 t2 t3 j' t1' t2' t3' J D :=
  ⟨g.pd.fr f (fun _ _ q => q), g.rd.fr f (fun _ _ q => q), g.pj.fr f (fun _ _ q => q), g.rj.fr f (fun _ _ q => q), g.ok, g.s1, g.s2, g.s3, g.s4, g.s5, g.s6⟩
theorem MsI.lt (g : MsI h d b p w r s0 j t1 t2 t3 j' t1' t2' t3' J D) : ∀ i, (PS d b p w i ∨ RS r s0 i ∨ JS j t1 t2 t3 i ∨ JS j' t1' t2' t3' i) → i < h.next := by
  rintro i (q | q | q | q)
  · exact g.pd.lt i q
  · exact g.rd.lt i q
  · exact PJ_lt g.pj i q
  · exact RJ_lt g.rj i q
theorem MsI.disk (g : MsI h d b p w r s0 j t1 t2 t3 j' t1' t2' t3' J D) {D' : Dsk} (hl : D'.s.length = D.s.length) (P : PD h1 d b p w D') (f : Fr (PS d b p w) h h1) (R : RD h2 r s0 D') (f2 : Fr (RS r s0) h1 h2) :
    MsI h2 d b p w r s0 j t1 t2 t3 j' t1' t2' t3' J D' :=
  ⟨P.fr f2 g.s1, R, (g.pj.fr f g.s2).fr f2 g.s3, (g.rj.fr f g.s4).fr f2 g.s5, by rw [hl]; exact g.ok, g.s1, g.s2, g.s3, g.s4, g.s5, g.s6⟩
theorem MsI.app (g : MsI h d b p w r s0 j t1 t2 t3 j' t1' t2' t3' J D) {J' : Jst} {D' : Dsk} {y1 y3 y1' y3' : Abs.Tok} (ok : JOk J' D'.s.length) (P : PD h1 d b p w D') (f : Fr (fun i => JS j t1 t2 t3 i ∨ PS d b p w i) h h1) (Q : PJ h1 j d y1 t2 y3 J') (u : ∀ i, JS j y1 t2 y3 i → JS j t1 t2 t3 i ∨ h.next ≤ i)
    (R : RD h2 r s0 D') (f2 : Fr (fun i => JS j' t1' t2' t3' i ∨ RS r s0 i) h1 h2) (Q' : RJ h2 j' r y1' t2' y3' J') (u' : ∀ i, JS j' y1' t2' y3' i → JS j' t1' t2' t3' i ∨ h1.next ≤ i) :
    MsI h2 d b p w r s0 j y1 t2 y3 j' y1' t2' y3' J' D' := by
  have lt := g.lt
  have lt1 := PJ_lt Q
  have n1 := f.1
  refine ⟨P.fr f2 (fun i q q' => q'.elim (fun q' => g.s4 i q' q) (g.s1 i q)), R, Q.fr f2 (fun i q q' => ?_), Q', ok, g.s1, fun i q q' => ?_, fun i q q' => ?_, fun i q q' => ?_, fun i q q' => ?_, fun i q q' => ?_⟩
  · rcases u i q with r1 | r1
    · exact q'.elim (fun q' => g.s6 i r1 q') (g.s3 i r1)
    · rcases q' with q' | q'
      · have := lt i (.inr (.inr (.inr q'))); omega
      · have := lt i (.inr (.inl q')); omega
  · rcases u i q with r1 | r1
    · exact g.s2 i r1 q'
    · have := lt i (.inl q'); omega
  · rcases u i q with r1 | r1
    · exact g.s3 i r1 q'
    · have := lt i (.inr (.inl q')); omega
  · rcases u' i q with r1 | r1
    · exact g.s4 i r1 q'
    · have := lt i (.inl q'); omega
  · rcases u' i q with r1 | r1
    · exact g.s5 i r1 q'
    · have := lt i (.inr (.inl q')); omega
  · rcases u' i q' with r1 | r1
    · rcases u i q with r2 | r2
      · exact g.s6 i r2 r1
      · have := lt i (.inr (.inr (.inr r1))); omega
    · have := lt1 i q; omega
end
theorem MsI.opened {h h1 h2 : Heap} {d b p w r s0 j : Nat} {t1 t2 t3 : Abs.Tok} {j' : Nat} {t1' t2' t3' : Abs.Tok} {J : Jst} {D : Dsk} (P0 : PD h d b p w D) (R0 : RD h r s0 D) (s1 : ∀ i, PS d b p w i → ¬ RS r s0 i) (ok : JOk J D.s.length)
    (P : PD h1 d b p w D) (f : Fr (fun _ => False) h h1) (Q : PJ h1 j d t1 t2 t3 J) (u : ∀ i, JS j t1 t2 t3 i → h.next ≤ i) (R : RD h2 r s0 D) (f2 : Fr (fun _ => False) h1 h2) (Q' : RJ h2 j' r t1' t2' t3' J) (u' : ∀ i, JS j' t1' t2' t3' i → h1.next ≤ i) :
    MsI h2 d b p w r s0 j t1 t2 t3 j' t1' t2' t3' J D := by
  have n1 := f.1
  have lt1 := PJ_lt Q
  refine ⟨P.fr f2 (fun _ _ q => q), R, Q.fr f2 (fun _ _ q => q), Q', ok, s1, fun i q q' => ?_, fun i q q' => ?_, fun i q q' => ?_, fun i q q' => ?_, fun i q q' => ?_⟩
  · have := u i q; have := P0.lt i q'; omega
  · have := u i q; have := R0.lt i q'; omega
  · have := u' i q; have := P0.lt i q'; omega
  · have := u' i q; have := R0.lt i q'; omega
  · have := u' i q'; have := lt1 i q; omega
theorem rnew_bad (n : Int) (h : Heap) (hn : n < 1 ∨ 4096 < n) : CV F 9 [.int .i64 n] h (fun v h' => v = .tup [.nilptr, .int .i64 1] ∧ h' = h) := by
  refine CV_wp (fn := c9) rfl ?_
  dsimp only [oT, oN, oV, oG, oW, c9]
  by_cases h1 : n < 1
  · replace fx := Dum_eq
    (first | refine go ?_ | exact goC | skip); repeat' (first | refine gP ?_ | exact gPc | refine gN ?_ | exact gNc | (refine gI ?_ ?_ <;> intro hyp <;> first | refine goF ?_ | exact goFc | refine goT ?_ | exact goTc | skip))
  · have h2 : 4096 < n := by omega
    replace fx := Dum_eq
    (first | refine go ?_ | exact goC | skip); repeat' (first | refine gP ?_ | exact gPc | refine gN ?_ | exact gNc | (refine gI ?_ ?_ <;> intro hyp <;> first | refine goF ?_ | exact goFc | refine goT ?_ | exact goTc | skip))
theorem rot_len (D : Dsk) (i bit : Int) : (D.rot i bit).2.s.length = D.s.length := by
  unfold Dsk.rot; split <;> simp
theorem wear_len (D : Dsk) (i : Int) : (D.wear i).2.s.length = D.s.length := by
  unfold Dsk.wear; split <;> simp
theorem mount_len' (D : Dsk) (pk : List Int) : (D.mount pk).s.length = D.s.length := mountS_len _ _ _
theorem trip_len (D : Dsk) (n : Int) : (D.trip n).s.length = D.s.length := rfl
theorem matchesJ_c {n : Int} (hn : -9223372036854775808 ≤ n ∧ n < 9223372036854775808) {l : List Stp} {tk : Tok} (hl : ∀ o ∈ l, o.ok) (hll : l.length ≤ 9223372036854775807) :
    CV F 6 [.int .i64 n, .sl (l.map Stp.val) tk] Heap.empty (fun v _ => v = .bool true) := by
  refine CV_wp (fn := c6) rfl ?_
  dsimp only [oT, oN, oV, oG, oW, c6]
  obtain ⟨u, hu, _, hs⟩ := pur_tk2 Heap.empty (l.map Stp.val) tk
  have fv := few_v l hl hll u hu
  by_cases h200 : 200 < n
  · replace fx := Dum_eq
    (first | refine go ?_ | exact goC | skip); repeat' (first | refine gP ?_ | exact gPc | refine gN ?_ | exact gNc | (refine gI ?_ ?_ <;> intro hyp <;> first | refine goF ?_ | exact goFc | refine goT ?_ | exact goTc | skip))
    refine CV_mono (sanity_c _) ?_
    rintro v h1 ⟨rfl, _⟩
    replace fx := Dum_eq
    (first | refine go ?_ | exact goC | skip); repeat' (first | refine gP ?_ | exact gPc | refine gN ?_ | exact gNc | (refine gI ?_ ?_ <;> intro hyp <;> first | refine goF ?_ | exact goFc | refine goT ?_ | exact goTc | skip))
  · by_cases hfew : (fewS l && decide (l.length ≤ 30)) = true
    rotate_left
    · rw [Bool.not_eq_true] at hfew
      rw [hfew] at fv
      replace fx := aI @hs @fv
      (first | refine go ?_ | exact goC | skip); repeat' (first | refine gP ?_ | exact gPc | refine gN ?_ | exact gNc | (refine gI ?_ ?_ <;> intro hyp <;> first | refine goF ?_ | exact goFc | refine goT ?_ | exact goTc | skip))
      refine CV_mono (sanity_c _) ?_
      rintro v h1 ⟨rfl, _⟩
      replace fx := Dum_eq
      (first | refine go ?_ | exact goC | skip); repeat' (first | refine gP ?_ | exact gPc | refine gN ?_ | exact gNc | (refine gI ?_ ?_ <;> intro hyp <;> first | refine goF ?_ | exact goFc | refine goT ?_ | exact goTc | skip))
    · rw [hfew] at fv
      by_cases hn1 : n < 1
      · replace fx := aI @hs @fv
        (first | refine go ?_ | exact goC | skip); repeat' (first | refine gP ?_ | exact gPc | refine gN ?_ | exact gNc | (refine gI ?_ ?_ <;> intro hyp <;> first | refine goF ?_ | exact goFc | refine goT ?_ | exact goTc | skip))
        refine CV_mono (new_bad n _ (by omega)) ?_
        rintro v h1 ⟨rfl, rfl⟩
        replace fx := Dum_eq
        (first | refine go ?_ | exact goC | skip); repeat' (first | refine gP ?_ | exact gPc | refine gN ?_ | exact gNc | (refine gI ?_ ?_ <;> intro hyp <;> first | refine goF ?_ | exact goFc | refine goT ?_ | exact goTc | skip))
        refine CV_mono (rnew_bad n _ (by omega)) ?_
        rintro v h1 ⟨rfl, rfl⟩
        replace fx := Dum_eq
        (first | refine go ?_ | exact goC | skip); repeat' (first | refine gP ?_ | exact gPc | refine gN ?_ | exact gNc | (refine gI ?_ ?_ <;> intro hyp <;> first | refine goF ?_ | exact goFc | refine goT ?_ | exact goTc | skip))
        refine CV_mono (sanity_c _) ?_
        rintro v h1 ⟨rfl, _⟩
        replace fx := Dum_eq
        (first | refine go ?_ | exact goC | skip); repeat' (first | refine gP ?_ | exact gPc | refine gN ?_ | exact gNc | (refine gI ?_ ?_ <;> intro hyp <;> first | refine goF ?_ | exact goFc | refine goT ?_ | exact goTc | skip))
      · replace fx := aI @hs @fv
        (first | refine go ?_ | exact goC | skip); repeat' (first | refine gP ?_ | exact gPc | refine gN ?_ | exact gNc | (refine gI ?_ ?_ <;> intro hyp <;> first | refine goF ?_ | exact goFc | refine goT ?_ | exact goTc | skip))
        refine CV_mono (new_c n _ (by omega)) ?_
        rintro v h1 ⟨d, b, p, w, rfl, P1, f1, u1⟩
        replace fx := Dum_eq
        (first | refine go ?_ | exact goC | skip); repeat' (first | refine gP ?_ | exact gPc | refine gN ?_ | exact gNc | (refine gI ?_ ?_ <;> intro hyp <;> first | refine goF ?_ | exact goFc | refine goT ?_ | exact goTc | skip))
        refine CV_mono (rnew_c n _ (by omega)) ?_
        rintro v h2 ⟨r, s0, rfl, R2, f2, u2⟩
        have P2 := P1.fr f2 (fun _ _ q => q)
        have sep : ∀ i, PS d b p w i → ¬ RS r s0 i := fun i q q' => by have := P1.lt i q; have := u2 i q'; omega
        have len2 : (freshD n.toNat).s.length = n.toNat := by simp [freshD]
        have off2 : (freshD n.toNat).off = false := rfl
        generalize freshD n.toNat = D0 at P2 R2 len2 off2
        clear P1 f1
        replace fx := Dum_eq
        (first | refine go ?_ | exact goC | skip); repeat' (first | refine gP ?_ | exact gPc | refine gN ?_ | exact gNc | (refine gI ?_ ?_ <;> intro hyp <;> first | refine goF ?_ | exact goFc | refine goT ?_ | exact goTc | skip))
        refine CV_mono (open_c P2 off2) ?_
        rintro v h3 ⟨j, t1, t2, t3, rfl, J3, P3, f3, v3⟩
        have R3 := R2.fr f3 (fun _ _ q => q)
        replace fx := Dum_eq
        (first | refine go ?_ | exact goC | skip); repeat' (first | refine gP ?_ | exact gPc | refine gN ?_ | exact gNc | (refine gI ?_ ?_ <;> intro hyp <;> first | refine goF ?_ | exact goFc | refine goT ?_ | exact goTc | skip))
        refine CV_mono (ropen_c R3 off2) ?_
        rintro v h4 ⟨j', t1', t2', t3', rfl, J4, R4, f4, v4⟩
        have ok4 := openJ_ok (conts D0)
        rw [conts_len] at ok4
        have I4 := MsI.opened P2 R2 sep ok4 P3 f3 J3 v3 R4 f4 J4 v4
        generalize openJ (conts D0) = J0 at I4
        clear J3 J4 P3 P2 R2 R3 R4 ok4 v3 v4 f3 f4 u1 u2 f2
        replace fx := Dum_eq
        (first | refine go ?_ | exact goC | skip); repeat' (first | refine gP ?_ | exact gPc | refine gN ?_ | exact gNc | (refine gI ?_ ?_ <;> intro hyp <;> first | refine goF ?_ | exact goFc | refine goT ?_ | exact goTc | skip))
        refine CV_mono (jsame_c I4.pj I4.pd I4.rj I4.rd I4.ok) ?_
        rintro v h5 ⟨rfl, f5⟩
        have I5 := I4.fr f5
        clear I4 f5
        have pn : ∀ i o, binA .eql .ptr (.ptr i o) .nilptr = some (.bool false) := fun _ _ => rfl
        have pn2 : ∀ i o, binA .neq .ptr (.ptr i o) .nilptr = some (.bool true) := fun _ _ => rfl
        replace fx := Dum_eq
        (first | refine go ?_ | exact goC | skip); repeat' (first | refine gP ?_ | exact gPc | refine gN ?_ | exact gNc | (refine gI ?_ ?_ <;> intro hyp <;> first | refine goF ?_ | exact goFc | refine goT ?_ | exact goTc | skip))
        refine w_loop (fun q vs h' => ∃ (k : Nat) (E : Dsk) (J : Jst) (j : Nat) (t1 t2 t3 : Abs.Tok) (j' : Nat) (t1' t2' t3' : Abs.Tok) (x1 x2 x3 x4 x5 x6 x7 x8 x9 x10 x11 x12 x13 x14 x15 x16 x17 x18 x19 x20 x21 x22 x23 : AVal), q = l.length - k ∧ k ≤ l.length ∧ vs = [.int .i64 n, .sl (l.map Stp.val) tk, .bool false, .ptr d 0, .int .i64 0, .ptr r 0, .int .i64 0, .ptr j 0, x1, .ptr j' 0, x2, x3, x4, x5, x6, x7, x8, x9, x10, .sl (l.map Stp.val) tk, .int .i64 (l.length : Int), .int .i64 (k : Int), x11, x12, x13, x14, x15, x16, x17, x18, x19, x20, x21, x22, x23] ∧
            MsI h' d b p w r s0 j t1 t2 t3 j' t1' t2' t3' J E ∧ E.s.length = n.toNat) l.length
          ⟨0, _, _, _, _, _, _, _, _, _, _, _, _, _, _, _, _, _, _, _, _, _, _, _, _, _, _, _, _, _, _, _, _, _, rfl, by omega, rfl, I5, len2⟩ ?_
        clear I5 len2 off2 J0 D0 t1 t2 t3 t1' t2' t3' j j'
        rintro q vs h4 ⟨k, E, J, j, t1, t2, t3, j', t1', t2', t3', x1, x2, x3, x4, x5, x6, x7, x8, x9, x10, x11, x12, x13, x14, x15, x16, x17, x18, x19, x20, x21, x22, x23, rfl, hk, rfl, I4, len4⟩
        by_cases hkl : k < l.length
        · have hok := hl _ (nth_mem hkl)
          generalize hno : nth l k = o at hok
          have st := stext_v o
          have ss := Stp.strip hok
          have otl := o.text_len
          have hib := hok.ib
          have hpl := hok.plen
          have fA : Fr (fun _ => False) h4 (h4.push (Obj.row true (typed 56) true o.cells)) := (Fr.refl _ _).push _
          have gx : (h4.push (Obj.row true (typed 56) true o.cells)).get h4.next = some (Obj.row true (typed 56) true o.cells) := get_push_eq rfl
          have I5 := I4.fr fA
          have nx : ∀ i, (PS d b p w i ∨ RS r s0 i ∨ JS j t1 t2 t3 i ∨ JS j' t1' t2' t3' i) → i ≠ h4.next := fun i q e => by
            have := I4.lt i q; omega
          have sN := stpN o
          have sc0 := stp0 o
          have sc1 := stp1 o
          have sc2 := stp2 o
          have sc5 := stp5 o
          by_cases k1 : o.kind = 1
          · replace fx := aI @hno (aI @stpL (aI @stpT (aI @stpS (aI @stpL' (aI @stpT' (aI @sN (aI @sc0 (aI @k1 (aI @pn (aI @st @ss))))))))))
            (first | refine go ?_ | exact goC | skip); repeat' (first | refine gP ?_ | exact gPc | refine gN ?_ | exact gNc | (refine gI ?_ ?_ <;> intro hyp <;> first | refine goF ?_ | exact goFc | refine goT ?_ | exact goTc | skip))
            generalize (h4.push (Obj.row true (typed 56) true o.cells)) = h5 at fA gx I5 ⊢
            refine CV_mono (appended_c I5.pj I5.pd I5.s2 I5.ok o.text (by omega)) ?_
            rintro v h6 ⟨rfl, P6, f6, y1, y3, J6, u6⟩
            have R6 := I5.rd.fr f6 (fun i q q' => q'.elim (fun q' => I5.s3 i q' q) (fun q' => I5.s1 i q' q))
            have Q6 := I5.rj.fr f6 (fun i q q' => q'.elim (fun q' => I5.s6 i q' q) (fun q' => I5.s4 i q q'))
            have gx6 := f6.get gx (fun q => nx _ (q.elim (fun q => .inr (.inr (.inl q))) .inl) rfl)
            obtain ⟨ok6, sl6⟩ := appendJ_ok (t := o.text) I5.ok
            rw [← sl6] at ok6
            have R6' := rappended_c Q6 R6 I5.s5 I5.ok o.text (by omega)
            replace fx := aI @gx6 (aI @stpL' (aI @stpT' (aI @st @ss)))
            (first | refine go ?_ | exact goC | skip); repeat' (first | refine gP ?_ | exact gPc | refine gN ?_ | exact gNc | (refine gI ?_ ?_ <;> intro hyp <;> first | refine goF ?_ | exact goFc | refine goT ?_ | exact goTc | skip))
            refine CV_mono R6' ?_
            rintro v h7 ⟨rfl, R7, f7, y1', y3', J7, u7⟩
            obtain ⟨J8, E8, I8, len8⟩ : ∃ J8 E8, MsI h7 d b p w r s0 j y1 t2 y3 j' y1' t2' y3' J8 E8 ∧ E8.s.length = n.toNat := ⟨_, _, I5.app ok6 P6 f6 J6 u6 R7 f7 J7 u7, by omega⟩
            have rrow8 := I8.rj.row
            cases hcl : J8.closed
            · rw [hcl] at rrow8
              replace fx := aI @pn2 @rrow8
              (first | refine go ?_ | exact goC | skip); repeat' (first | refine gP ?_ | exact gPc | refine gN ?_ | exact gNc | (refine gI ?_ ?_ <;> intro hyp <;> first | refine goF ?_ | exact goFc | refine goT ?_ | exact goTc | skip))
              refine CV_mono (jsame_c I8.pj I8.pd I8.rj I8.rd I8.ok) ?_
              rintro v h9 ⟨rfl, f9⟩
              have I9 := I8.fr f9
              replace fx := Dum_eq
              (first | refine go ?_ | exact goC | skip); repeat' (first | refine gP ?_ | exact gPc | refine gN ?_ | exact gNc | (refine gI ?_ ?_ <;> intro hyp <;> first | refine goF ?_ | exact goFc | refine goT ?_ | exact goTc | skip))
              exact lp_n ⟨_, by omega, k + 1, _, _, _, _, _, _, _, _, _, _, _, _, _, _, _, _, _, _, _, _, _, _, _, _, _, _, _, _, _, _, _, _, _, rfl, by omega, by push_cast; rfl, I9, len8⟩
            · rw [hcl] at rrow8
              replace fx := aI @pn2 @rrow8
              (first | refine go ?_ | exact goC | skip); repeat' (first | refine gP ?_ | exact gPc | refine gN ?_ | exact gNc | (refine gI ?_ ?_ <;> intro hyp <;> first | refine goF ?_ | exact goFc | refine goT ?_ | exact goTc | skip))
              exact lp_n ⟨_, by omega, k + 1, _, _, _, _, _, _, _, _, _, _, _, _, _, _, _, _, _, _, _, _, _, _, _, _, _, _, _, _, _, _, _, _, _, rfl, by omega, by push_cast; rfl, I8, len8⟩
          · by_cases k2 : o.kind = 2
            · replace fx := aI @hno (aI @stpL (aI @stpT (aI @stpS (aI @stpL' (aI @stpT' (aI @sN (aI @sc0 (aI @sc1 (aI @k1 @k2)))))))))
              (first | refine go ?_ | exact goC | skip); repeat' (first | refine gP ?_ | exact gPc | refine gN ?_ | exact gNc | (refine gI ?_ ?_ <;> intro hyp <;> first | refine goF ?_ | exact goFc | refine goT ?_ | exact goTc | skip))
              generalize (h4.push (Obj.row true (typed 56) true o.cells)) = h5 at fA gx I5 ⊢
              refine CV_mono (trip_c I5.pd hib) ?_
              rintro v h6 ⟨P6, f6⟩
              have R6 := I5.rd.fr f6 (fun i q q' => I5.s1 i q' q)
              have gx6 := f6.get gx (fun q => nx _ (.inl q) rfl)
              replace fx := aI @gx6 (aI @sN @sc1)
              (first | refine go ?_ | exact goC | skip); repeat' (first | refine gP ?_ | exact gPc | refine gN ?_ | exact gNc | (refine gI ?_ ?_ <;> intro hyp <;> first | refine goF ?_ | exact goFc | refine goT ?_ | exact goTc | skip))
              refine CV_mono (rtrip_c R6 hib) ?_
              rintro v h7 ⟨R7, f7⟩
              obtain ⟨J8, E8, I8, len8⟩ : ∃ J8 E8, MsI h7 d b p w r s0 j t1 t2 t3 j' t1' t2' t3' J8 E8 ∧ E8.s.length = n.toNat := ⟨_, _, I5.disk (trip_len _ _) P6 f6 R7 f7, by rw [trip_len]; exact len4⟩
              have rrow8 := I8.rj.row
              cases hcl : J8.closed
              · rw [hcl] at rrow8
                replace fx := aI @pn2 @rrow8
                (first | refine go ?_ | exact goC | skip); repeat' (first | refine gP ?_ | exact gPc | refine gN ?_ | exact gNc | (refine gI ?_ ?_ <;> intro hyp <;> first | refine goF ?_ | exact goFc | refine goT ?_ | exact goTc | skip))
                refine CV_mono (jsame_c I8.pj I8.pd I8.rj I8.rd I8.ok) ?_
                rintro v h9 ⟨rfl, f9⟩
                have I9 := I8.fr f9
                replace fx := Dum_eq
                (first | refine go ?_ | exact goC | skip); repeat' (first | refine gP ?_ | exact gPc | refine gN ?_ | exact gNc | (refine gI ?_ ?_ <;> intro hyp <;> first | refine goF ?_ | exact goFc | refine goT ?_ | exact goTc | skip))
                exact lp_n ⟨_, by omega, k + 1, _, _, _, _, _, _, _, _, _, _, _, _, _, _, _, _, _, _, _, _, _, _, _, _, _, _, _, _, _, _, _, _, _, rfl, by omega, by push_cast; rfl, I9, len8⟩
              · rw [hcl] at rrow8
                replace fx := aI @pn2 @rrow8
                (first | refine go ?_ | exact goC | skip); repeat' (first | refine gP ?_ | exact gPc | refine gN ?_ | exact gNc | (refine gI ?_ ?_ <;> intro hyp <;> first | refine goF ?_ | exact goFc | refine goT ?_ | exact goTc | skip))
                exact lp_n ⟨_, by omega, k + 1, _, _, _, _, _, _, _, _, _, _, _, _, _, _, _, _, _, _, _, _, _, _, _, _, _, _, _, _, _, _, _, _, _, rfl, by omega, by push_cast; rfl, I8, len8⟩
            · by_cases k3 : o.kind = 3
              · replace fx := aI @hno (aI @stpL (aI @stpT (aI @stpS (aI @stpL' (aI @stpT' (aI @sN (aI @sc0 (aI @sc5 (aI @k1 (aI @k2 @k3))))))))))
                (first | refine go ?_ | exact goC | skip); repeat' (first | refine gP ?_ | exact gPc | refine gN ?_ | exact gNc | (refine gI ?_ ?_ <;> intro hyp <;> first | refine goF ?_ | exact goFc | refine goT ?_ | exact goTc | skip))
                generalize (h4.push (Obj.row true (typed 56) true o.cells)) = h5 at fA gx I5 ⊢
                refine CV_mono (mount_c I5.pd o.picks o.tk hpl) ?_
                rintro v h6 ⟨P6, f6⟩
                have R6 := I5.rd.fr f6 (fun i q q' => I5.s1 i q' q)
                have gx6 := f6.get gx (fun q => nx _ (.inl q) rfl)
                replace fx := aI @gx6 (aI @sN @sc5)
                (first | refine go ?_ | exact goC | skip); repeat' (first | refine gP ?_ | exact gPc | refine gN ?_ | exact gNc | (refine gI ?_ ?_ <;> intro hyp <;> first | refine goF ?_ | exact goFc | refine goT ?_ | exact goTc | skip))
                refine CV_mono (rmount_c R6 o.picks o.tk hpl) ?_
                rintro v h7 ⟨R7, f7⟩
                have P7 := P6.fr f7 I5.s1
                have len7 := mount_len' E o.picks
                have off7 : (E.mount o.picks).off = false := rfl
                generalize E.mount o.picks = E7 at P7 R7 len7 off7
                replace fx := Dum_eq
                (first | refine go ?_ | exact goC | skip); repeat' (first | refine gP ?_ | exact gPc | refine gN ?_ | exact gNc | (refine gI ?_ ?_ <;> intro hyp <;> first | refine goF ?_ | exact goFc | refine goT ?_ | exact goTc | skip))
                refine CV_mono (open_c P7 off7) ?_
                rintro v h8 ⟨jn, y1, y2, y3, rfl, J8, P8, f8, v8⟩
                have R8 := R7.fr f8 (fun _ _ q => q)
                replace fx := Dum_eq
                (first | refine go ?_ | exact goC | skip); repeat' (first | refine gP ?_ | exact gPc | refine gN ?_ | exact gNc | (refine gI ?_ ?_ <;> intro hyp <;> first | refine goF ?_ | exact goFc | refine goT ?_ | exact goTc | skip))
                refine CV_mono (ropen_c R8 off7) ?_
                rintro v h9 ⟨jn', y1', y2', y3', rfl, J9, R9, f9, v9⟩
                have ok9 := openJ_ok (conts E7)
                rw [conts_len] at ok9
                obtain ⟨J8, E8, I8, len8⟩ : ∃ J8 E8, MsI h9 d b p w r s0 jn y1 y2 y3 jn' y1' y2' y3' J8 E8 ∧ E8.s.length = n.toNat := ⟨_, _, MsI.opened P7 R7 I5.s1 ok9 P8 f8 J8 v8 R9 f9 J9 v9, by omega⟩
                have rrow8 := I8.rj.row
                cases hcl : J8.closed
                · rw [hcl] at rrow8
                  replace fx := aI @pn2 @rrow8
                  (first | refine go ?_ | exact goC | skip); repeat' (first | refine gP ?_ | exact gPc | refine gN ?_ | exact gNc | (refine gI ?_ ?_ <;> intro hyp <;> first | refine goF ?_ | exact goFc | refine goT ?_ | exact goTc | skip))
                  refine CV_mono (jsame_c I8.pj I8.pd I8.rj I8.rd I8.ok) ?_
                  rintro v h9 ⟨rfl, f9⟩
                  have I9 := I8.fr f9
                  replace fx := Dum_eq
                  (first | refine go ?_ | exact goC | skip); repeat' (first | refine gP ?_ | exact gPc | refine gN ?_ | exact gNc | (refine gI ?_ ?_ <;> intro hyp <;> first | refine goF ?_ | exact goFc | refine goT ?_ | exact goTc | skip))
                  exact lp_n ⟨_, by omega, k + 1, _, _, _, _, _, _, _, _, _, _, _, _, _, _, _, _, _, _, _, _, _, _, _, _, _, _, _, _, _, _, _, _, _, rfl, by omega, by push_cast; rfl, I9, len8⟩
                · rw [hcl] at rrow8
                  replace fx := aI @pn2 @rrow8
                  (first | refine go ?_ | exact goC | skip); repeat' (first | refine gP ?_ | exact gPc | refine gN ?_ | exact gNc | (refine gI ?_ ?_ <;> intro hyp <;> first | refine goF ?_ | exact goFc | refine goT ?_ | exact goTc | skip))
                  exact lp_n ⟨_, by omega, k + 1, _, _, _, _, _, _, _, _, _, _, _, _, _, _, _, _, _, _, _, _, _, _, _, _, _, _, _, _, _, _, _, _, _, rfl, by omega, by push_cast; rfl, I8, len8⟩
              · by_cases k4 : o.kind = 4
                · obtain ⟨h5, hh5⟩ : ∃ h5, h5 = h4.push (Obj.row true (typed 56) true o.cells) := ⟨_, rfl⟩
                  rw [← hh5] at fA gx I5
                  obtain ⟨_, h6, G6, rfl, P6, f6⟩ := rot_c I5.pd o.i o.bit
                  have R6 := I5.rd.fr f6 (fun i q q' => I5.s1 i q' q)
                  have gx6 := f6.get gx (fun q => nx _ (.inl q) rfl)
                  obtain ⟨_, h7, G7, rfl, R7, f7⟩ := rrot_c R6 o.i o.bit
                  replace fx := aI @hno (aI @stpL (aI @stpT (aI @stpS (aI @stpL' (aI @stpT' (aI @sN (aI @sc0 (aI @k1 (aI @k2 (aI @k3 (aI @k4 (aI @hh5.symm @gx))))))))))))
                  (first | refine go ?_ | exact goC | skip); repeat' (first | refine gP ?_ | exact gPc | refine gN ?_ | exact gNc | (refine gI ?_ ?_ <;> intro hyp <;> first | refine goF ?_ | exact goFc | refine goT ?_ | exact goTc | skip))
                  refine w_alts (vs' := [.int .i64 n, .sl (l.map Stp.val) tk, .bool false, .ptr d 0, .int .i64 0, .ptr r 0, .int .i64 0, .ptr j 0, x1, .ptr j' 0, x2, .ptr h4.next 0, x4, x5, x6, x7, x8, x9, x10, .sl (l.map Stp.val) tk, .int .i64 (l.length : Int), .int .i64 (k : Int), .bool (decide ((k : Int) < (l.length : Int))), .int .i64 4, .bool false, x14, x15, .bool false, .bool false, x18, .bool true, .bool false, x21, x22, x23]) (h' := h7) (List.cons_ne_nil _ _) (fun y hy => ?_) ?_
                  · simp only [List.mem_cons, List.not_mem_nil, or_false] at hy
                    rcases hy with rfl | rfl | rfl | rfl
                    all_goals
                      replace fx := aI @gx (aI @gx6 (aI @sN (aI @sc1 @sc2)))
                      (first | refine go ?_ | exact goC | skip); repeat' (first | refine gP ?_ | exact gPc | refine gN ?_ | exact gNc | (refine gI ?_ ?_ <;> intro hyp <;> first | refine goF ?_ | exact goFc | refine goT ?_ | exact goTc | skip))
                      refine ⟨_, _, G6, ?_⟩
                      replace fx := aI @gx (aI @gx6 (aI @sN (aI @sc1 @sc2)))
                      (first | refine go ?_ | exact goC | skip); repeat' (first | refine gP ?_ | exact gPc | refine gN ?_ | exact gNc | (refine gI ?_ ?_ <;> intro hyp <;> first | refine goF ?_ | exact goFc | refine goT ?_ | exact goTc | skip))
                      refine ⟨_, _, G7, ?_⟩
                      replace fx := Dum_eq
                      (first | refine go ?_ | exact goC | skip); repeat' (first | refine gP ?_ | exact gPc | refine gN ?_ | exact gNc | (refine gI ?_ ?_ <;> intro hyp <;> first | refine goF ?_ | exact goFc | refine goT ?_ | exact goTc | skip))
                  · obtain ⟨J8, E8, I8, len8⟩ : ∃ J8 E8, MsI h7 d b p w r s0 j t1 t2 t3 j' t1' t2' t3' J8 E8 ∧ E8.s.length = n.toNat := ⟨_, _, I5.disk (rot_len _ _ _) P6 f6 R7 f7, by rw [rot_len]; exact len4⟩
                    have rrow8 := I8.rj.row
                    cases hcl : J8.closed
                    · rw [hcl] at rrow8
                      replace fx := aI @pn2 @rrow8
                      (first | refine go ?_ | exact goC | skip); repeat' (first | refine gP ?_ | exact gPc | refine gN ?_ | exact gNc | (refine gI ?_ ?_ <;> intro hyp <;> first | refine goF ?_ | exact goFc | refine goT ?_ | exact goTc | skip))
                      refine CV_mono (jsame_c I8.pj I8.pd I8.rj I8.rd I8.ok) ?_
                      rintro v h9 ⟨rfl, f9⟩
                      have I9 := I8.fr f9
                      replace fx := Dum_eq
                      (first | refine go ?_ | exact goC | skip); repeat' (first | refine gP ?_ | exact gPc | refine gN ?_ | exact gNc | (refine gI ?_ ?_ <;> intro hyp <;> first | refine goF ?_ | exact goFc | refine goT ?_ | exact goTc | skip))
                      exact lp_n ⟨_, by omega, k + 1, _, _, _, _, _, _, _, _, _, _, _, _, _, _, _, _, _, _, _, _, _, _, _, _, _, _, _, _, _, _, _, _, _, rfl, by omega, by push_cast; rfl, I9, len8⟩
                    · rw [hcl] at rrow8
                      replace fx := aI @pn2 @rrow8
                      (first | refine go ?_ | exact goC | skip); repeat' (first | refine gP ?_ | exact gPc | refine gN ?_ | exact gNc | (refine gI ?_ ?_ <;> intro hyp <;> first | refine goF ?_ | exact goFc | refine goT ?_ | exact goTc | skip))
                      exact lp_n ⟨_, by omega, k + 1, _, _, _, _, _, _, _, _, _, _, _, _, _, _, _, _, _, _, _, _, _, _, _, _, _, _, _, _, _, _, _, _, _, rfl, by omega, by push_cast; rfl, I8, len8⟩
                · by_cases k5 : o.kind = 5
                  · obtain ⟨h5, hh5⟩ : ∃ h5, h5 = h4.push (Obj.row true (typed 56) true o.cells) := ⟨_, rfl⟩
                    rw [← hh5] at fA gx I5
                    obtain ⟨_, h6, G6, rfl, P6, f6⟩ := wear_c I5.pd o.i
                    have R6 := I5.rd.fr f6 (fun i q q' => I5.s1 i q' q)
                    have gx6 := f6.get gx (fun q => nx _ (.inl q) rfl)
                    obtain ⟨_, h7, G7, rfl, R7, f7⟩ := rwear_c R6 o.i
                    replace fx := aI @hno (aI @stpL (aI @stpT (aI @stpS (aI @stpL' (aI @stpT' (aI @sN (aI @sc0 (aI @k1 (aI @k2 (aI @k3 (aI @k4 (aI @k5 (aI @hh5.symm @gx)))))))))))))
                    (first | refine go ?_ | exact goC | skip); repeat' (first | refine gP ?_ | exact gPc | refine gN ?_ | exact gNc | (refine gI ?_ ?_ <;> intro hyp <;> first | refine goF ?_ | exact goFc | refine goT ?_ | exact goTc | skip))
                    refine w_alts (vs' := [.int .i64 n, .sl (l.map Stp.val) tk, .bool false, .ptr d 0, .int .i64 0, .ptr r 0, .int .i64 0, .ptr j 0, x1, .ptr j' 0, x2, .ptr h4.next 0, x4, x5, x6, x7, x8, x9, x10, .sl (l.map Stp.val) tk, .int .i64 (l.length : Int), .int .i64 (k : Int), .bool (decide ((k : Int) < (l.length : Int))), .int .i64 5, .bool false, x14, x15, .bool false, .bool false, x18, .bool false, x20, .bool true, .bool false, x23]) (h' := h7) (List.cons_ne_nil _ _) (fun y hy => ?_) ?_
                    · simp only [List.mem_cons, List.not_mem_nil, or_false] at hy
                      rcases hy with rfl | rfl
                      all_goals
                        replace fx := aI @gx (aI @gx6 (aI @sN @sc1))
                        (first | refine go ?_ | exact goC | skip); repeat' (first | refine gP ?_ | exact gPc | refine gN ?_ | exact gNc | (refine gI ?_ ?_ <;> intro hyp <;> first | refine goF ?_ | exact goFc | refine goT ?_ | exact goTc | skip))
                        refine ⟨_, _, G6, ?_⟩
                        replace fx := aI @gx (aI @gx6 (aI @sN @sc1))
                        (first | refine go ?_ | exact goC | skip); repeat' (first | refine gP ?_ | exact gPc | refine gN ?_ | exact gNc | (refine gI ?_ ?_ <;> intro hyp <;> first | refine goF ?_ | exact goFc | refine goT ?_ | exact goTc | skip))
                        refine ⟨_, _, G7, ?_⟩
                        replace fx := Dum_eq
                        (first | refine go ?_ | exact goC | skip); repeat' (first | refine gP ?_ | exact gPc | refine gN ?_ | exact gNc | (refine gI ?_ ?_ <;> intro hyp <;> first | refine goF ?_ | exact goFc | refine goT ?_ | exact goTc | skip))
                    · obtain ⟨J8, E8, I8, len8⟩ : ∃ J8 E8, MsI h7 d b p w r s0 j t1 t2 t3 j' t1' t2' t3' J8 E8 ∧ E8.s.length = n.toNat := ⟨_, _, I5.disk (wear_len _ _) P6 f6 R7 f7, by rw [wear_len]; exact len4⟩
                      have rrow8 := I8.rj.row
                      cases hcl : J8.closed
                      · rw [hcl] at rrow8
                        replace fx := aI @pn2 @rrow8
                        (first | refine go ?_ | exact goC | skip); repeat' (first | refine gP ?_ | exact gPc | refine gN ?_ | exact gNc | (refine gI ?_ ?_ <;> intro hyp <;> first | refine goF ?_ | exact goFc | refine goT ?_ | exact goTc | skip))
                        refine CV_mono (jsame_c I8.pj I8.pd I8.rj I8.rd I8.ok) ?_
                        rintro v h9 ⟨rfl, f9⟩
                        have I9 := I8.fr f9
                        replace fx := Dum_eq
                        (first | refine go ?_ | exact goC | skip); repeat' (first | refine gP ?_ | exact gPc | refine gN ?_ | exact gNc | (refine gI ?_ ?_ <;> intro hyp <;> first | refine goF ?_ | exact goFc | refine goT ?_ | exact goTc | skip))
                        exact lp_n ⟨_, by omega, k + 1, _, _, _, _, _, _, _, _, _, _, _, _, _, _, _, _, _, _, _, _, _, _, _, _, _, _, _, _, _, _, _, _, _, rfl, by omega, by push_cast; rfl, I9, len8⟩
                      · rw [hcl] at rrow8
                        replace fx := aI @pn2 @rrow8
                        (first | refine go ?_ | exact goC | skip); repeat' (first | refine gP ?_ | exact gPc | refine gN ?_ | exact gNc | (refine gI ?_ ?_ <;> intro hyp <;> first | refine goF ?_ | exact goFc | refine goT ?_ | exact goTc | skip))
                        exact lp_n ⟨_, by omega, k + 1, _, _, _, _, _, _, _, _, _, _, _, _, _, _, _, _, _, _, _, _, _, _, _, _, _, _, _, _, _, _, _, _, _, rfl, by omega, by push_cast; rfl, I8, len8⟩
                  · obtain ⟨J8, E8, I8, len8⟩ : ∃ J8 E8, MsI _ d b p w r s0 j t1 t2 t3 j' t1' t2' t3' J8 E8 ∧ E8.s.length = n.toNat := ⟨_, _, I5, len4⟩
                    replace fx := aI @hno (aI @stpL (aI @stpT (aI @stpS (aI @stpL' (aI @stpT' (aI @sN (aI @sc0 (aI @k1 (aI @k2 (aI @k3 (aI @k4 @k5)))))))))))
                    (first | refine go ?_ | exact goC | skip); repeat' (first | refine gP ?_ | exact gPc | refine gN ?_ | exact gNc | (refine gI ?_ ?_ <;> intro hyp <;> first | refine goF ?_ | exact goFc | refine goT ?_ | exact goTc | skip))
                    have rrow8 := I8.rj.row
                    cases hcl : J8.closed
                    · rw [hcl] at rrow8
                      replace fx := aI @pn2 @rrow8
                      (first | refine go ?_ | exact goC | skip); repeat' (first | refine gP ?_ | exact gPc | refine gN ?_ | exact gNc | (refine gI ?_ ?_ <;> intro hyp <;> first | refine goF ?_ | exact goFc | refine goT ?_ | exact goTc | skip))
                      refine CV_mono (jsame_c I8.pj I8.pd I8.rj I8.rd I8.ok) ?_
                      rintro v h9 ⟨rfl, f9⟩
                      have I9 := I8.fr f9
                      replace fx := Dum_eq
                      (first | refine go ?_ | exact goC | skip); repeat' (first | refine gP ?_ | exact gPc | refine gN ?_ | exact gNc | (refine gI ?_ ?_ <;> intro hyp <;> first | refine goF ?_ | exact goFc | refine goT ?_ | exact goTc | skip))
                      exact lp_n ⟨_, by omega, k + 1, _, _, _, _, _, _, _, _, _, _, _, _, _, _, _, _, _, _, _, _, _, _, _, _, _, _, _, _, _, _, _, _, _, rfl, by omega, by push_cast; rfl, I9, len8⟩
                    · rw [hcl] at rrow8
                      replace fx := aI @pn2 @rrow8
                      (first | refine go ?_ | exact goC | skip); repeat' (first | refine gP ?_ | exact gPc | refine gN ?_ | exact gNc | (refine gI ?_ ?_ <;> intro hyp <;> first | refine goF ?_ | exact goFc | refine goT ?_ | exact goTc | skip))
                      exact lp_n ⟨_, by omega, k + 1, _, _, _, _, _, _, _, _, _, _, _, _, _, _, _, _, _, _, _, _, _, _, _, _, _, _, _, _, _, _, _, _, _, rfl, by omega, by push_cast; rfl, I8, len8⟩
        · replace fx := Dum_eq
          (first | refine go ?_ | exact goC | skip); repeat' (first | refine gP ?_ | exact gPc | refine gN ?_ | exact gNc | (refine gI ?_ ?_ <;> intro hyp <;> first | refine goF ?_ | exact goFc | refine goT ?_ | exact goTc | skip))
          refine CV_mono (sanity_c _) ?_
          rintro v h5 ⟨rfl, f5⟩
          have I5 := I4.fr f5
          replace fx := Dum_eq
          (first | refine go ?_ | exact goC | skip); repeat' (first | refine gP ?_ | exact gPc | refine gN ?_ | exact gNc | (refine gI ?_ ?_ <;> intro hyp <;> first | refine goF ?_ | exact goFc | refine goT ?_ | exact goTc | skip))
          refine CV_mono (image_c I5.pd) ?_
          rintro vi h6 ⟨id, hvi, hid, g6, f6⟩
          refine GK_fr f6 ?_
          have I6 := I5.fr f6
          replace fx := Dum_eq
          (first | refine go ?_ | exact goC | skip); repeat' (first | refine gP ?_ | exact gPc | refine gN ?_ | exact gNc | (refine gI ?_ ?_ <;> intro hyp <;> first | refine goF ?_ | exact goFc | refine goT ?_ | exact goTc | skip))
          refine CV_mono (rimage_c I6.rd) ?_
          rintro v h7 ⟨tk7, rfl, f7⟩
          refine GK_fr f7 ?_
          have w7 := I6.pd.ok.len
          have ci : ClV h7 vi strV (imageL E) := by rw [hvi]; exact .inr ⟨id, by rw [show (imageL E).length = E.s.length by simp [imageL]], f7.get g6 (fun q => q)⟩
          clear hvi g6
          replace fx := Dum_eq
          (first | refine go ?_ | exact goC | skip); repeat' (first | refine gP ?_ | exact gPc | refine gN ?_ | exact gNc | (refine gI ?_ ?_ <;> intro hyp <;> first | refine goF ?_ | exact goFc | refine goT ?_ | exact goTc | skip))
          refine pc_two (ys := (imageL E).map strV) (puS_of ci) (Pu.sl _ _ _) (sameTexts_p _ _ (by simp [imageL]; omega)) ?_
          rw [decide_eq_true rfl]
end Go.Proofs.YtjofjgflcogklaaGreatDoor
