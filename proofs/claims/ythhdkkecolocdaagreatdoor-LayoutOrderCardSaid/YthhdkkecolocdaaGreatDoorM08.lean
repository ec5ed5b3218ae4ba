/-
  Merged from LyY2 LyO1 LyOc LyOb: The law LayoutOrder.
-/
import Derived.Test.YthhdkkecolocdaaGreatDoorM07
import Derived.Test.YthhdkkecolocdaaGreatDoorM06
import Derived.Test.YthhdkkecolocdaaGreatDoorTie
import Derived.Test.YthhdkkecolocdaaGreatDoorCards
set_option linter.unusedSimpArgs false
set_option linter.unusedVariables false
set_option linter.defProp false
set_option linter.constructorNameAsVariable false
/-
 The law LayoutOrder.
-/
set_option maxHeartbeats 8000000
set_option maxRecDepth 8000
namespace Go.Proofs.YthhdkkecolocdaaGreatDoor
open Go Go.Abs Go.Gt Go.Ly
theorem sumL_app (f : Ly.Id → Nat) : ∀ (l m : List Ly.Id), sumL f (l ++ m) = sumL f l + sumL f m
 | [], m => by simp [sumL]
 | x :: l, m => by simp only [List.cons_append, sumL]; rw [sumL_app f l m]; omega
theorem sumL_take (f : Ly.Id → Nat) (E : List Ly.Id) {i : Nat} (hi : i < E.length) : sumL f (E.take (i + 1)) = sumL f (E.take i) + f (nth E i) := by
 rw [List.take_succ_eq_append_getElem hi, ← nth_eq hi, sumL_app]
 simp [sumL]
theorem firsts_len (l met : List Ly.Id) : (firsts met l).length ≤ l.length := by
 have := (nodup_firsts l met).length_le_of_subset (l₂ := l) fun x hx => (mem_firsts.1 hx).1
 exact this
theorem firsts_take (L : List Ly.Id) {i : Nat} (hi : i < L.length) : (firsts [] (L.take (i + 1))).length = if nth L i ∈ L.take i then (firsts [] (L.take i)).length else (firsts [] (L.take i)).length + 1 := by
 have h : L.take (i + 1) = L.take i ++ [nth L i] := by rw [List.take_succ_eq_append_getElem hi, ← nth_eq hi]
 rw [h, firsts_snoc]
 by_cases h2 : nth L i ∈ L.take i
 ·simp [h2]
 ·simp [h2]
theorem order_run {l m : List Int} {t u : Abs.Tok} {many : Int} (ht : Pt t) (hu : Pt u) (hl : ∀ x ∈ l, i64 x) (hm : ∀ x ∈ m, i64 x) (h1 : i64 many) : CV F 5 [.sl (l.map (.int .i64)) t, .sl (m.map (.int .i64)) u, .int .i64 many] Heap.empty (fun v _ => v = .bool true) := by
 refine CV_wp (fn := c5) rfl ?_
 simp only [uT, c5]
 have stu := strip_pt hu (xs := m.map (.int .i64))
 replace fx := Dum_eq
 first | refine go ?_ | exact goC
 refine CV_mono (tree_c ht hl _) ?_
 rintro v H1 ⟨t1, t2, rfl, g1, g2, f1⟩
 have fit := tree_fit l
 have sm := tree_small l
 have hds := tree_heads l
 obtain ⟨⟨i1, rfl⟩, i2, rfl⟩ := tree_own fit (tree_es l) g1 g2
 generalize treeB l = b at fit sm g1 g2 hds ⊢
 have ok := fit.ok
 have hb2 := fit.ss
 obtain ⟨hv, hhv, rest, rfl, hr1, hr2, hr3⟩ := house_v hu hm
 have a1 := around_v (n := many) (m := 12) h1 (by omega)
 have c1 := around_bound many (m := 12) (by omega)
 have sv := some_v b fit (t := u) hm (aroundS many 12) 1 (by omega) (by omega)
 have sl := someL_len b m (many := aroundS many 12) 1 (by omega)
 generalize someL b m (aroundS many 12) 1 = L at sv sl
 have hL : L.length ≤ 13 := by omega
 have stL := strip_pt (tk_pt L) (xs := L.map Ly.Id.val)
 have ev := entries_v b fit hds L (by omega) (sm L) (tk_pt L) (u := .none) (.inl rfl) (k := 10) (by omega) hr1 hr2
 have ev2 := fun (B : List Ly.Id) (hB : B.length ≤ 60) => entries_v b fit hds B hB (sm B) (tk_pt B) (u := .none) (.inl rfl) (k := 10) (by omega) hr1 hr2
 rw [show aK 10 = smallL from rfl] at ev ev2
 rw [show (AVal.agg (.sl (smallL.map Ltr.val) .none :: rest)) = .agg (hoR rest) from rfl] at ev ev2 hhv
 have hst := hoSt hr3
 have k1 := hoL hr1
 have k2 := hoA hr2
 have k3 := hoT hr1
 have k4 := hoS hr1
 unfold hsZ at k4
 replace fx := aI @brL (aI @brA (aI @brT (aI @br0 (aI @br_st (aI @a1 (aI @sv (aI @stu (aI @stL (aI @hhv (aI @hst (aI @k1 (aI @k2 (aI @k3 @k4)))))))))))))
 first | refine go ?_ | exact goC
 have gb0 : ((H1.push (.row true (typed 31) true (bkRow (.sl (b.es.map En.val) (.own i1 5)) (.sl (b.ss.map Sn.val) (.own i2 14))))).push (.row true (typed 47) true (hoR rest))).get H1.next = some (.row true (typed 31) true (bkRow (.sl (b.es.map En.val) (.own i1 5)) (.sl (b.ss.map Sn.val) (.own i2 14)))) := get_push_old (get_push_eq rfl)
 have gh0 : ((H1.push (.row true (typed 31) true (bkRow (.sl (b.es.map En.val) (.own i1 5)) (.sl (b.ss.map Sn.val) (.own i2 14))))).push (.row true (typed 47) true (hoR rest))).get (H1.next + 1) = some (.row true (typed 47) true (hoR rest)) := get_push_eq rfl
 generalize (H1.push (.row true (typed 31) true (bkRow (.sl (b.es.map En.val) (.own i1 5)) (.sl (b.ss.map Sn.val) (.own i2 14))))).push (.row true (typed 47) true (hoR rest)) = Hc at gb0 gh0 ⊢
 generalize H1.next + 1 = p6 at gh0 ⊢
 generalize H1.next = p5 at gb0 ⊢
 refine w_loop (fun q vs H => ∃ (n : Nat) (B : List Ly.Id) (tB : Abs.Tok) (x1 x2 x3 x4 x5 x6 x7 x8 x9 x10 x11 x12 x13 x14 x15 x16 x17 x18 x19 x20 x21 x22 : AVal), q = n + 1 ∧ n ≤ L.length ∧ B.length ≤ 2 * (L.length - n) ∧ (∀ x ∈ B, x ∈ L) ∧ (∀ j, n ≤ j → j < L.length → nth L j ∈ B) ∧ Gr H 62 3 B tB ∧ (B = [] → tB = .nil) ∧
   H.get p5 = some (.row true (typed 31) true (bkRow (.sl (b.es.map En.val) (.own i1 5)) (.sl (b.ss.map Sn.val) (.own i2 14)))) ∧ H.get p6 = some (.row true (typed 47) true (hoR rest)) ∧
   vs = [.sl (l.map (.int .i64)) t, .sl (m.map (.int .i64)) u, .int .i64 many, .bool false, .ptr p5 0, .ptr p6 0, .sl (L.map Ly.Id.val) (tk L), .sl (B.map Ly.Id.val) tB, .int .i64 ((n : Int) - 1), x1, x2, x3, x4, x5, x6, x7, x8, x9, x10, x11, x12, x13, x14, x15, x16, x17, x18, x19, x20, x21, x22]) (L.length + 1)
  ⟨L.length, [], .nil, _, _, _, _, _, _, _, _, _, _, _, _, _, _, _, _, _, _, _, _, _, _, rfl, by omega, by simp, by simp, fun j h1 h2 => by omega, Gr.nil _ _ _, fun _ => rfl, gb0, gh0, rfl⟩ ?_
 clear gb0 gh0 Hc
 rintro q vs H ⟨n, B, tB, x1, x2, x3, x4, x5, x6, x7, x8, x9, x10, x11, x12, x13, x14, x15, x16, x17, x18, x19, x20, x21, x22, rfl, hn, hBl, hBL, hLB, gB, gBn, gb, gh, rfl⟩
 by_cases hn0 : 0 < n
 ·obtain ⟨i, rfl⟩ : ∃ i, n = i + 1 := ⟨n - 1, by omega⟩
  have e : ((i + 1 : Nat) : Int) - 1 = (i : Int) := by omega
  rw [e]
  have hil : i < L.length := by omega
  obtain ⟨x, hx⟩ : ∃ x, nth L i = x := ⟨_, rfl⟩
  obtain ⟨z, hz⟩ : ∃ z, nth L (L.length - 1) = z := ⟨_, rfl⟩
  have hxL : x ∈ L := by rw [← hx]; exact nth_mem hil
  have hzL : z ∈ L := by rw [← hz]; exact nth_mem (by omega)
  replace fx := aI @hx (aI @hz (aI @idVL (aI @idL (aI @idA (aI @idT (aI @id_agg @idcE))))))
  (first | refine go ?_ | exact goC); repeat' (first | refine gP ?_ | exact gPc)
  refine append_U (f := Ly.Id.val) B [x, z] (fun _ => rfl) (fun _ => rfl) (fun _ => rfl) (lenA_sl (f := Ly.Id.val) (l := [x, z])) (elems_sl (f := Ly.Id.val) (l := [x, z]) (fun _ => rfl)) gB (by simp; omega) (by omega) (by omega) (by omega) fun H5 t5 g5 n5 keep5 => ?_
  have kb := keep5 _ _ _ _ _ gb
  have kh := keep5 _ _ _ _ _ gh
  replace fx := Dum_eq
  first | refine go ?_ | exact goC
  refine lp_n ⟨_, Nat.lt_succ_self _, i, B ++ [x, z], t5, _, _, _, _, _, _, _, _, _, _, _, _, _, _, _, _, _, _, _, _, _, _, rfl, by omega, by simp; omega, fun y hy => ?_, fun j h1 h2 => ?_, g5, fun q => by simp at q, kb, kh, rfl⟩
  ·rcases List.mem_append.1 hy with h | h
   ·exact hBL y h
   ·simp only [List.mem_cons, List.not_mem_nil, or_false] at h
    rcases h with rfl | rfl
    ·exact hxL
    ·exact hzL
  ·by_cases hj : j = i
   ·subst hj; rw [hx]; simp
   ·exact List.mem_append.2 (.inl (hLB j (by omega) h2))
 ·have hn3 : n = 0 := by omega
  subst hn3
  have hmem : ∀ x, x ∈ L ↔ x ∈ B := fun x => ⟨fun h => by
   obtain ⟨j, hj, q⟩ := List.getElem_of_mem h
   rw [← q, ← nth_eq hj]
   exact hLB j (Nat.zero_le _) hj, hBL x⟩
  have ev3 := ev2 B (by omega)
  have stB := gr_strip gB gBn (B.map Ly.Id.val)
  have e0 : ((0 : Nat) : Int) - 1 = -1 := rfl
  rw [e0]
  have heq : errE b 10 L = 0 ↔ errE b 10 B = 0 := by
   rw [errE_zero, errE_zero]
   exact ⟨fun h x hx => h x ((hmem x).2 hx), fun h x hx => h x ((hmem x).1 hx)⟩
  by_cases he : errE b 10 L = 0
  ·have he2 := heq.1 he
   rw [entR_ok (by decide) he] at ev
   have ev0 := ev
   rw [entR_ok (by decide) he2, ← sortE_congr hmem] at ev3
   have hne := fun e => listE_ne ok he (e := e)
   have hcnt := count_all ok he
   have hEm : ∀ e, e ∈ sortE 10 b L → e ∈ sortE 10 b L := fun _ h => h
   have hEl : (sortE 10 b L).length ≤ 1000 := by
    have := (sortE_nodup 10 b L).length_le_of_subset (l₂ := L.map (entOf b)) fun e h => by
     obtain ⟨x, hx, q⟩ := mem_entsE.1 (mem_sortE.1 h)
     exact List.mem_map.2 ⟨x, hx, q⟩
    rw [List.length_map] at this
    omega
   clear ev ev2 hEm
   have stE := strip_pt (tk_pt (sortE 10 b L)) (xs := (sortE 10 b L).map Ly.Id.val)
   have sE := same_v (sortE 10 b L) (tk (sortE 10 b L)) (tk (sortE 10 b L)) (by omega)
   replace fx := aI @gb (aI @gh (aI @brL (aI @brA (aI @brT (aI @br0 (aI @br_st (aI @stL (aI @stB (aI @hst (aI @k1 (aI @k2 (aI @k3 (aI @ev0 (aI @ev3 (aI @stE @sE)))))))))))))))
   first | refine go ?_ | exact goC
   have hls := fun e => listE_congr ok hmem e
   have hnd := fun e => listE_nodup ok L e
   have hEnd := sortE_nodup 10 b L
   have hl13 : ∀ e, (listE b L e).length ≤ 13 := fun e => by
    have := (listE_nodup ok L e).length_le_of_subset (l₂ := L) fun x hx => ((mem_listE ok).1 hx).1
    omega
   have hcap : sumL (fun e => (listE b L e).length) (sortE 10 b L) ≤ 13 := by
    rw [hcnt]; have := firsts_len L []; omega
   generalize sortE 10 b L = E at hne hcnt hEl hEnd hcap ⊢
   generalize tk E = te
   refine w_loop (fun q vs H' => ∃ (i : Nat) (x1 x2 x3 x4 x5 x6 x7 x8 x9 x10 x11 x12 x13 x14 : AVal), q = E.length - i ∧ i ≤ E.length ∧ H'.get p5 = some (.row true (typed 31) true (bkRow (.sl (b.es.map En.val) (.own i1 5)) (.sl (b.ss.map Sn.val) (.own i2 14)))) ∧
     vs = [.sl (l.map (.int .i64)) t, .sl (m.map (.int .i64)) u, .int .i64 many, .bool false, .ptr p5 0, .ptr p6 0, .sl (L.map Ly.Id.val) (tk L), .sl (B.map Ly.Id.val) tB, .int .i64 (-1), .sl (E.map Ly.Id.val) te, .sl (E.map (leV b L)) te, .int .i64 0, .sl (E.map Ly.Id.val) te, .sl (E.map (leV b B)) te, .int .i64 0, .int .i64 (sumL (fun e => (listE b L e).length) (E.take i) : Nat), .int .i64 (i : Int), x1, x2, x3, x4, x5, x6, x7, x8, x9, x10, x11, x12, x13, x14]) E.length
    ⟨0, _, _, _, _, _, _, _, _, _, _, _, _, _, _, rfl, by omega, gb, rfl⟩ ?_
   clear fx gb gh gB H
   rintro q vs H ⟨i, x1, x2, x3, x4, x5, x6, x7, x8, x9, x10, x11, x12, x13, x14, rfl, hi, gb, rfl⟩
   by_cases hi2 : i < E.length
   ·obtain ⟨e, hei⟩ : ∃ e, nth E i = e := ⟨_, rfl⟩
    have heE : e ∈ E := by rw [← hei]; exact nth_mem hi2
    have hsum := sumL_take (fun e => (listE b L e).length) E hi2
    rw [hei] at hsum
    have hcap2 : sumL (fun e => (listE b L e).length) (E.take (i + 1)) ≤ 13 := by
     have := sumL_app (fun e => (listE b L e).length) (E.take (i + 1)) (E.drop (i + 1))
     rw [List.take_append_drop] at this
     omega
    rw [hsum] at hcap2
    have hle := hne e heE
    have hlen := hl13 e
    have leC : (leV b L e).cells = [.sl ((listE b L e).map Ly.Id.val) .none] := by
     have : tk (listE b L e) = .none := by unfold tk; rw [if_neg (by simpa using hle)]
     show [leV b L e] = _
     rw [leV_eq, this]
    have leC2 : (leV b B e).cells = [.sl ((listE b L e).map Ly.Id.val) .none] := by
     have : tk (listE b L e) = .none := by unfold tk; rw [if_neg (by simpa using hle)]
     show [leV b B e] = _
     rw [leV_eq, ← hls, this]
    have stl := strip_pt (.inl rfl : Pt .none) (xs := (listE b L e).map Ly.Id.val)
    have sl := same_v (listE b L e) .none .none (by omega)
    have hl0 : 0 < (listE b L e).length := List.length_pos_iff.2 hle
    replace fx := aI @hei (aI @leC (aI @leC2 (aI @stl @sl)))
    (first | refine go ?_ | exact goC); repeat' (first | refine gP ?_ | exact gPc | refine gN ?_ | exact gNc)
    have hpb := fun k => parent_before ok (L := L) (e := e) (i := k)
    have hml := fun x => mem_listE ok (L := L) (e := e) (x := x)
    have hndl := hnd e
    generalize hS : sumL (fun e => (listE b L e).length) (E.take i) = S at hsum hcap2 ⊢
    generalize hleq : listE b L e = le at hle hlen leC leC2 stl sl hl0 hpb hml hndl hsum hcap2 ⊢
    refine w_loop (fun q vs H' => ∃ (k : Nat) (x1 x2 x3 x4 x5 x6 x7 x8 x9 x10 x11 x12 x13 : AVal), q = le.length - k ∧ k ≤ le.length ∧ H'.get p5 = some (.row true (typed 31) true (bkRow (.sl (b.es.map En.val) (.own i1 5)) (.sl (b.ss.map Sn.val) (.own i2 14)))) ∧
      vs = [.sl (l.map (.int .i64)) t, .sl (m.map (.int .i64)) u, .int .i64 many, .bool false, .ptr p5 0, .ptr p6 0, .sl (L.map Ly.Id.val) (tk L), .sl (B.map Ly.Id.val) tB, .int .i64 (-1), .sl (E.map Ly.Id.val) te, .sl (E.map (leV b L)) te, .int .i64 0, .sl (E.map Ly.Id.val) te, .sl (E.map (leV b B)) te, .int .i64 0, .int .i64 ((S + k : Nat) : Int), .int .i64 (i : Int), .int .i64 (k : Int), x1, x2, x3, x4, x5, x6, x7, x8, x9, x10, x11, x12, x13]) le.length
     ⟨0, _, _, _, _, _, _, _, _, _, _, _, _, _, rfl, by omega, gb, rfl⟩ ?_
    clear fx gb H
    rintro q vs H ⟨k, x1, x2, x3, x4, x5, x6, x7, x8, x9, x10, x11, x12, x13, rfl, hk, gb, rfl⟩
    by_cases hk2 : k < le.length
    ·obtain ⟨x, hx⟩ : ∃ x, nth le k = x := ⟨_, rfl⟩
     have hxl : x ∈ le := by rw [← hx]; exact nth_mem hk2
     have hxm := (hml x).1 hxl
     obtain ⟨y, hy, hye⟩ := has_iff.1 hxm.2
     obtain ⟨s, hs⟩ := Option.isSome_iff_exists.1 (entry_sense hy)
     have env := entry_v b fit x
     have snv := sense_v b fit x
     rw [hy] at env
     unfold senseR at snv
     rw [hs] at snv
     unfold entV at env
     simp only [Option.isSome_some, Option.getD_some] at env snv
     have q1 := has_v L x (t := tk L) (by omega)
     have e1 : decide (x ∈ L) = true := decide_eq_true hxm.1
     rw [e1] at q1
     have q2 := has_v (le.take k) x (t := .none) (by rw [List.length_take]; omega)
     have e2 : decide (x ∈ le.take k) = false := by
      refine decide_eq_false fun q => ?_
      obtain ⟨j, hj, hjx⟩ := List.getElem_of_mem q
      rw [List.length_take] at hj
      rw [List.getElem_take, ← nth_eq (by omega), ← hx] at hjx
      have := nth_inj hndl (by omega) hk2 hjx
      omega
     rw [e2] at q2
     have q3 := has_v (le.drop k) s.par (t := .none) (by rw [List.length_drop]; omega)
     have e3 : decide (s.par ∈ le.drop k) = false := decide_eq_false (hpb k hk2 (by rw [hx]; exact hs))
     rw [e3] at q3
     have w1 : sliceA 3 (.sl (le.map Ly.Id.val) .none) none (some (.int .i64 (k : Int))) = some (.sl ((le.take k).map Ly.Id.val) .none) := slice_sl_b Ly.Id.val le .none .i64 k (by omega) (by omega) (fun _ => rfl) (by simp)
     have w2 : sliceA 3 (.sl (le.map Ly.Id.val) .none) (some (.int .i64 (k : Int))) none = some (.sl ((le.drop k).map Ly.Id.val) .none) := slice_n_a Ly.Id.val le .i64 k (by omega) (by omega) (fun _ => rfl)
     have t1 := strip_pt (.inl rfl : Pt .none) (xs := (le.take k).map Ly.Id.val)
     have t2 := strip_pt (.inl rfl : Pt .none) (xs := (le.drop k).map Ly.Id.val)
     have gb1 : ∀ o, (H.push o).get p5 = _ := fun o => get_push_old gb
     have gz1 : ∀ o, (H.push o).get H.next = some o := fun o => get_push_eq rfl
     have gz2 : ∀ o o', ((H.push o).push o').get H.next = some o := fun o o' => get_push_old (get_push_eq rfl)
     have gs2 : ∀ o o', ((H.push o).push o').get (H.next + 1) = some o' := fun o o' => get_push_eq rfl
     have ne1 : binA .neq (.struct [.int, .int, .int]) y.id.val e.val = some (.bool false) := by rw [hye]; exact idne e
     replace fx := aI @gb (aI @gb1 (aI @gz1 (aI @gz2 (aI @gs2 (aI @hei (aI @leC (aI @stl (aI @hx (aI @env (aI @snv (aI @q1 (aI @q2 (aI @q3 (aI @w1 (aI @w2 (aI @t1 (aI @t2 (aI @stL (aI @ne1 (aI @brL (aI @brA (aI @brT (aI @br_st (aI @idVL (aI @idL (aI @idA (aI @idT (aI @idS0 (aI @id_agg (aI @st_id (aI @enVL (aI @enL (aI @enA (aI @enT (aI @enId (aI @enS0 (aI @snVL (aI @snL (aI @snA (aI @snT (aI @snId (aI @snPar @snS0))))))))))))))))))))))))))))))))))))))))))
     (first | refine go ?_ | exact goC); repeat' (first | refine gP ?_ | exact gPc)
     exact lp_n ⟨_, by omega, k + 1, _, _, _, _, _, _, _, _, _, _, _, _, _, rfl, by omega, get_push_old (get_push_old gb), by push_cast; rfl⟩
    ·have hk3 : k = le.length := by omega
     subst hk3
     replace fx := aI @hei @leC
     (first | refine go ?_ | exact goC); repeat' (first | refine gN ?_ | exact gNc)
     exact lp_n ⟨_, by omega, i + 1, _, _, _, _, _, _, _, _, _, _, _, _, _, _, rfl, by omega, gb, by rw [hsum]; push_cast; rfl⟩
   ·have hi3 : i = E.length := by omega
    subst hi3
    rw [List.take_length, hcnt]
    have hfl := firsts_len L []
    replace fx := Dum_eq
    (first | refine go ?_ | exact goC); repeat' (first | refine gN ?_ | exact gNc)
    refine w_loop (fun q vs H' => ∃ (j : Nat) (x1 x2 x3 x4 x5 x6 x7 x8 x9 x10 x11 x12 x13 x14 : AVal), q = L.length - j ∧ j ≤ L.length ∧
      vs = [.sl (l.map (.int .i64)) t, .sl (m.map (.int .i64)) u, .int .i64 many, .bool false, .ptr p5 0, .ptr p6 0, .sl (L.map Ly.Id.val) (tk L), .sl (B.map Ly.Id.val) tB, .int .i64 (-1), .sl (E.map Ly.Id.val) te, .sl (E.map (leV b L)) te, .int .i64 0, .sl (E.map Ly.Id.val) te, .sl (E.map (leV b B)) te, .int .i64 0, .int .i64 (((firsts [] L).length : Int) - ((firsts [] (L.take j)).length : Int)), x1, x2, x3, x4, x5, .int .i64 (j : Int), x6, x7, x8, x9, x10, x11, x12, x13, x14]) L.length
     ⟨0, _, _, _, _, _, _, _, _, _, _, _, _, _, _, rfl, by omega, by rfl⟩ ?_
    clear fx gb H
    rintro q vs H ⟨j, x1, x2, x3, x4, x5, x6, x7, x8, x9, x10, x11, x12, x13, x14, rfl, hj, rfl⟩
    by_cases hj2 : j < L.length
    ·obtain ⟨x, hx⟩ : ∃ x, nth L j = x := ⟨_, rfl⟩
     have hft := firsts_take L hj2
     rw [hx] at hft
     have hf1 := firsts_len (L.take j) []
     rw [List.length_take] at hf1
     have w1 : sliceA 3 (.sl (L.map Ly.Id.val) (tk L)) none (some (.int .i64 (j : Int))) = some (.sl ((L.take j).map Ly.Id.val) (tk L).sub) := slice_sl_b Ly.Id.val L (tk L) .i64 j (by omega) (by omega) (fun _ => rfl) (fun q => by
      have : tk L = .none := by
       unfold tk; rw [if_neg]; intro h; simp at h; rw [h] at hj2; simp at hj2
      rw [this] at q; simp at q)
     have t1 := strip_pt (pt_sub (tk_pt L)) (xs := (L.take j).map Ly.Id.val)
     have q1 := has_v (L.take j) x (t := (tk L).sub) (by rw [List.length_take]; omega)
     by_cases hm2 : x ∈ L.take j
     ·have e1 : decide (x ∈ L.take j) = true := decide_eq_true hm2
      rw [e1] at q1
      rw [if_pos hm2] at hft
      replace fx := aI @hx (aI @w1 (aI @t1 (aI @q1 (aI @idVL (aI @idL (aI @idA (aI @idT (aI @idS0 (aI @id_agg @st_id)))))))))
      (first | refine go ?_ | exact goC); repeat' (first | refine gP ?_ | exact gPc)
      exact lp_n ⟨_, by omega, j + 1, _, _, _, _, _, _, _, _, _, _, _, _, _, _, rfl, by omega, by rw [hft]; push_cast; rfl⟩
     ·have e1 : decide (x ∈ L.take j) = false := decide_eq_false hm2
      rw [e1] at q1
      rw [if_neg hm2] at hft
      replace fx := aI @hx (aI @w1 (aI @t1 (aI @q1 (aI @idVL (aI @idL (aI @idA (aI @idT (aI @idS0 (aI @id_agg @st_id)))))))))
      (first | refine go ?_ | exact goC); repeat' (first | refine gP ?_ | exact gPc)
      have e2 : ((firsts [] L).length : Int) - ((firsts [] (L.take j)).length : Int) - 1 = ((firsts [] L).length : Int) - ((firsts [] (L.take (j + 1))).length : Int) := by rw [hft]; push_cast; omega
      rw [e2]
      exact lp_n ⟨_, by omega, j + 1, _, _, _, _, _, _, _, _, _, _, _, _, _, _, rfl, by omega, by push_cast; rfl⟩
    ·have hj3 : j = L.length := by omega
     subst hj3
     have e3 : ((firsts [] L).length : Int) - ((firsts [] (L.take L.length)).length : Int) = 0 := by rw [List.take_length]; omega
     rw [e3]
     replace fx := @lives_v
     (first | refine go ?_ | exact goC); repeat' (first | refine gN ?_ | exact gNc)
  ·have he2 : errE b 10 B ≠ 0 := fun q => he (heq.2 q)
   rw [entR_bad (by decide) he] at ev
   rw [entR_bad (by decide) he2] at ev3
   replace fx := aI @gb (aI @gh (aI @brL (aI @brA (aI @brT (aI @br0 (aI @br_st (aI @stL (aI @stB (aI @hst (aI @k1 (aI @k2 (aI @k3 (aI @ev (aI @ev3 (aI @lives_v (aI @he @he2))))))))))))))))
   (first | refine go ?_ | exact goC); repeat' (first | refine gP ?_ | exact gPc | (refine gI ?_ ?_ <;> intro hyp <;> first | refine goF ?_ | exact goFc | refine goT ?_ | exact goTc | skip))
   exact hyp rfl
end Go.Proofs.YthhdkkecolocdaaGreatDoor

namespace Go.Proofs.YthhdkkecolocdaaGreatDoor
open Go Go.Abs Go.Ly
theorem order_go {l m : List Int} {t u : Abs.Tok} {many : Int} (v0 : ArgL l t) (v1 : ArgL m u) (h1 : i64 many) : CV F 5 [.sl (l.map (.int .i64)) t, .sl (m.map (.int .i64)) u, .int .i64 many] Heap.empty (fun v _ => v = .bool true) := order_run v0.pt v1.pt v0.ok v1.ok h1
end Go.Proofs.YthhdkkecolocdaaGreatDoor

namespace Go.Proofs.YthhdkkecolocdaaGreatDoor
open Go Go.Abs Go.ChangeShapes Go.WideShapes Go.ChangeAt Go.RowKit
set_option maxHeartbeats 40000000 in
theorem layoutOrder_closed : joinedFacts Tryz.prog 5 Tryz.f5 Rows.layoutOrderSpec Rows.layoutOrderRow = true := by
 unfold joinedFacts
 simp only [Bool.and_eq_true]
 repeat' apply And.intro
 all_goals (as_aux_lemma => kernel_rfl)
end Go.Proofs.YthhdkkecolocdaaGreatDoor

namespace Go.Proofs.YthhdkkecolocdaaGreatDoor
open Go Go.Abs Go.ChangeShapes Go.WideShapes Go.ChangeAt Go.RowKit
attribute [local irreducible] okA
theorem layoutOrder_args (xs : List AVal) (h : ShArgs Tryz.prog 5 [22, 22, 3] xs) : ∃ h', Gives F 5 xs Heap.empty (.bool true) h' := by
 obtain _ | ⟨a0, b0, h⟩ := h
 obtain _ | ⟨a1, b1, h⟩ := h
 obtain _ | ⟨a2, b2, h⟩ := h
 obtain _ | _ := h
 obtain ⟨l0, tk0, rfl, v0⟩ := argL (n := 3) a0 b0
 obtain ⟨l1, tk1, rfl, v1⟩ := argL (n := 3) a1 b1
 obtain ⟨z2, rfl, w2⟩ := argI (n := 4) a2 b2
 obtain ⟨r, h', c, rfl⟩ := order_go v0 v1 w2
 exact ⟨h', c⟩
set_option maxRecDepth 100000 in
theorem layoutOrder_lifted (os : Os) (started : os.Started) (H : Type) (enc : TypeId × Value → H) :
  ReturnsInHanded {} Tryz.checked os 5 .any (fun w args => (Rows.layoutOrderSpec.pre enc Tryz.prog Tryz.f5 [] false w args ∧ laidMetH Tryz.prog laidK w) ∧ sizedMet enc Tryz.prog Tryz.f5 (OpenSpec.ofChange Rows.layoutOrderSpec) false w args)
   (Rows.layoutOrderSpec.post enc Tryz.prog Tryz.f5 false true false false) := by
 refine returnsInHanded_of_change_and (C := Tryz.checked) (X := fun w _ => laidMetH Tryz.prog laidK w) (fun _ _ _ hh h => h.of_heap hh) own started (by kernel_rfl) Tryz.func5
  (ChangeSpec.witness_shaped (enc := enc) (C := Tryz.checked) (os := os) (X := fun w _ => laidMetH Tryz.prog laidK w) false (World.laidAll Tryz.prog os laidK) #[.slice none 0 0, .slice none 0 0, .int .i64 0] 8 (World.laidAll_os _ _ _) (World.shaped_of_ZipB (by kernel_rfl) (by kernel_rfl)) (by kernel_rfl) (by kernel_rfl) (by kernel_rfl) (door_met os _)) ?_
 intro W base args ds gs before hval hW _ _ hL _
 refine row_calls (globs hL) (P := Tryz.prog) (n := 5) (ts := [22, 22, 3]) (tb := 4) mixed table laidOut (congrArg Array.toList Tryz.params5) (fun t ht => ?_) (fun t ht => ?_) rfl Tryz.underlying4 rfl (fun H ds hl => ?_) layoutOrder_args base args ds gs before hval hW
 ·simp only [List.mem_cons, List.not_mem_nil, or_false] at ht
  rcases ht with rfl | rfl | rfl
  ·exact ⟨by kernel_rfl, of_decide_eq_true (by kernel_rfl)⟩
  ·exact ⟨by kernel_rfl, of_decide_eq_true (by kernel_rfl)⟩
  ·exact ⟨by kernel_rfl, of_decide_eq_true (by kernel_rfl)⟩
 ·simp only [List.mem_cons, List.not_mem_nil, or_false] at ht
  rcases ht with rfl | rfl | rfl
  ·kernel_rfl
  ·kernel_rfl
  ·kernel_rfl
 ·match ds, hl with
  | [d0, d1, d2], _ => rfl
theorem layoutOrderRow_holds : Rows.LayoutOrderSaid :=
 OpenClaim.holds_of_wide 5 Tryz.f5 rfl rfl rfl rfl rfl rfl rfl ⟨rfl, rfl, rfl, rfl, rfl⟩ rfl rfl rfl rfl rfl (by kernel_rfl) Tryz.func5 layoutOrder_closed
  (of_decide_eq_true (by kernel_rfl)) (by unfold Func.isWrapper; first | (rw [if_pos (by decide +kernel)]; kernel_rfl) | (rw [if_neg (by decide +kernel)]; exact ⟨rfl, rfl⟩))
  (fun os started H enc _ => layoutOrder_lifted os started H enc)
end Go.Proofs.YthhdkkecolocdaaGreatDoor
