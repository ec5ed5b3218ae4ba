/-
  Merged from DkRef3 DkRef4 DkRef5 DkRef6 JsP0 JsP1 JsP2 JsP3 JsQ0 JsQ1 JsQ2 JsQ3 JsJ JsK: The reference's disk: Flush, Mount.
-/
import Derived.Test.YtjofjgflcogklaaGreatDoorM05
/-
  The reference's disk: Flush, Mount.
-/
set_option linter.unusedSimpArgs false
set_option linter.unusedVariables false
set_option maxHeartbeats 4000000
namespace Go.Proofs.YtjofjgflcogklaaGreatDoor
open Go Go.Abs
variable {h : Heap} {d b p w r s : Nat} {D : Dsk}
theorem nth_app {α : Type} [Inhabited α] (pf : List α) (x : α) (rest : List α) : nth (pf ++ x :: rest) pf.length = x := by simp [nth, List.getD_eq_getElem?_getD]
theorem set_app {α : Type} (pf : List α) (x y : α) (rest : List α) : (pf ++ x :: rest).set pf.length y = (pf ++ [y]) ++ rest := by simp
theorem rflush_c (R : RD h r s D) : CV F 66 [.ptr r 0] h (fun v h' => v = .int .i64 D.flush.1 ∧ RD h' r s D.flush.2 ∧ Fr (RS r s) h h') := by
  have R0 := R
  obtain ⟨ok, hr, hs, ne⟩ := R
  have hlen := ok.len
  refine CV_wp (fn := c66) rfl ?_
  dsimp only [c66]
  cases hoff : D.off with
  | true =>
    rw [hoff] at hr
    rw [show D.flush = (21, D) from if_pos hoff]
    replace fx := @hr
    (first | refine go ?_ | exact goC | skip); repeat' (first | refine gP ?_ | exact gPc | refine gN ?_ | exact gNc | (refine gI ?_ ?_ <;> intro hyp <;> first | refine goF ?_ | exact goFc | refine goT ?_ | exact goTc | skip))
    exact ⟨R0, Fr.refl _ _⟩
  | false =>
    rw [hoff] at hr
    replace fx := @hr
    (first | refine go ?_ | exact goC | skip); repeat' (first | refine gP ?_ | exact gPc | refine gN ?_ | exact gNc | (refine gI ?_ ?_ <;> intro hyp <;> first | refine goF ?_ | exact goFc | refine goT ?_ | exact goTc | skip))
    refine CV_mono (rstep_c R0) ?_
    rintro v h1 ⟨⟨q, rfl, R1⟩ | ⟨q, rfl, R1⟩, hF⟩
    · rw [show D.flush = (21, { D with off := true }) by unfold Dsk.flush; rw [hoff, if_neg (by simp), if_pos q]]
      replace fx := Dum_eq
      (first | refine go ?_ | exact goC | skip); repeat' (first | refine gP ?_ | exact gPc | refine gN ?_ | exact gNc | (refine gI ?_ ?_ <;> intro hyp <;> first | refine goF ?_ | exact goFc | refine goT ?_ | exact goTc | skip))
      exact ⟨R1, hF⟩
    · rw [show D.flush = (0, { D with left := stepL D.left, s := mountS (fun _ => 64) D.s 0 }) by unfold Dsk.flush; rw [hoff, if_neg (by simp), if_neg q]]
      replace fx := Dum_eq
      (first | refine go ?_ | exact goC | skip); repeat' (first | refine gP ?_ | exact gPc | refine gN ?_ | exact gNc | (refine gI ?_ ?_ <;> intro hyp <;> first | refine goF ?_ | exact goFc | refine goT ?_ | exact goTc | skip))
      refine w_loop (fun m vs h3 => ∃ (pf rest : List Sec) (k : Nat) (x1 x2 x3 x4 x5 x6 : AVal), m = rest.length ∧ vs = [.ptr r 0, x1, x2, .int .i64 (pf.length : Int), x3, x4, x5, x6] ∧
        RD h3 r s { D with left := stepL D.left, s := pf ++ rest } ∧ Fr (RS r s) h h3 ∧ pf ++ mountS (fun _ => 64) rest k = mountS (fun _ => 64) D.s 0 ∧ pf.length + rest.length = D.s.length) D.s.length
        ⟨[], D.s, 0, _, _, _, _, _, _, rfl, rfl, R1, hF, rfl, by simp⟩ ?_
      rintro m vs h3 ⟨pf, rest, k, x1, x2, x3, x4, x5, x6, rfl, rfl, R3, hF3, hS, hl⟩
      have R3' := R3
      obtain ⟨ok3, hr3, hs3, ne3⟩ := R3
      simp only [List.length_append] at hr3
      cases rest with
      | nil =>
        simp only [mountS, List.append_nil] at hS hs3 R3'
        subst hS
        replace fx := aI @hr3 @List.length_nil.{0}
        (first | refine go ?_ | exact goC | skip); repeat' (first | refine gP ?_ | exact gPc | refine gN ?_ | exact gNc | (refine gI ?_ ?_ <;> intro hyp <;> first | refine goF ?_ | exact goFc | refine goT ?_ | exact goTc | skip))
        exact ⟨R3', hF3⟩
      | cons x rest =>
        have hk : pf.length < (pf ++ x :: rest).length := by simp
        obtain ⟨q0, q1, q2, q3⟩ := sec_ld (pf ++ x :: rest) pf.length hk true 4 true
        rw [nth_app] at q2
        simp only [List.length_cons] at hl hr3
        cases hx : x.next with
        | none =>
          rw [hx] at q2
          replace fx := aI @hr3 (aI @hs3 (aI @q2 (aI @Option.isSome_none.{0} @List.length_cons.{0})))
          (first | refine go ?_ | exact goC | skip); repeat' (first | refine gP ?_ | exact gPc | refine gN ?_ | exact gNc | (refine gI ?_ ?_ <;> intro hyp <;> first | refine goF ?_ | exact goFc | refine goT ?_ | exact goTc | skip))
          refine lp_n ⟨rest.length, by simp, pf ++ [x], rest, k, _, _, _, _, _, _, rfl, by simp only [List.length_append, List.length_cons, List.length_nil, Nat.zero_add]; push_cast; rfl, by simpa using R3', hF3, by simp only [mountS, hx] at hS; simpa using hS, by simp; omega⟩
        | some v =>
          rw [hx] at q2
          replace fx := aI @hr3 (aI @hs3 (aI @q2 (aI @Option.isSome_some.{0} @List.length_cons.{0})))
          (first | refine go ?_ | exact goC | skip); repeat' (first | refine gP ?_ | exact gPc | refine gN ?_ | exact gNc | (refine gI ?_ ?_ <;> intro hyp <;> first | refine goF ?_ | exact goFc | refine goT ?_ | exact goTc | skip))
          refine CV_mono (rsettle_c R3' hk (by rw [nth_app]; exact hx) 64) ?_
          rintro u h4 ⟨R4, hF4⟩
          rw [nth_app] at R4
          simp only [set_app] at R4
          replace fx := Dum_eq
          (first | refine go ?_ | exact goC | skip); repeat' (first | refine gP ?_ | exact gPc | refine gN ?_ | exact gNc | (refine gI ?_ ?_ <;> intro hyp <;> first | refine goF ?_ | exact goFc | refine goT ?_ | exact goTc | skip))
          refine lp_n ⟨rest.length, by simp, pf ++ [settle x 64], rest, k + 1, _, _, _, _, _, _, rfl, by simp only [List.length_append, List.length_cons, List.length_nil, Nat.zero_add]; push_cast; rfl, R4, hF3.trans hF4, by simp only [mountS, hx] at hS; simpa using hS, by simp; omega⟩
theorem rmount_c (R : RD h r s D) (picks : List Int) (tk : Tok) (hpl : picks.length ≤ 9223372036854775807) : CV F 32 [.ptr r 0, .sl (picks.map (.int .i64)) tk] h (fun _ h' => RD h' r s (D.mount picks) ∧ Fr (RS r s) h h') := by
  have R0 := R
  obtain ⟨ok, hr, hs, ne⟩ := R
  have hlen := ok.len
  refine CV_wp (fn := c32) rfl ?_
  dsimp only [c32]
  replace fx := Dum_eq
  (first | refine go ?_ | exact goC | skip); repeat' (first | refine gP ?_ | exact gPc | refine gN ?_ | exact gNc | (refine gI ?_ ?_ <;> intro hyp <;> first | refine goF ?_ | exact goFc | refine goT ?_ | exact goTc | skip))
  refine w_loop (fun m vs h3 => ∃ (pf rest : List Sec) (k : Nat) (x1 x2 x3 x4 : AVal), m = rest.length ∧ vs = [.ptr r 0, .sl (picks.map (.int .i64)) tk, .int .i64 (k : Int), .int .i64 (pf.length : Int), x1, x2, x3, x4] ∧
    RD h3 r s { D with s := pf ++ rest } ∧ Fr (RS r s) h h3 ∧ pf ++ mountS (pickF picks) rest k = mountS (pickF picks) D.s 0 ∧ pf.length + rest.length = D.s.length ∧ k ≤ pf.length) D.s.length
    ⟨[], D.s, 0, _, _, _, _, rfl, rfl, R0, Fr.refl _ _, rfl, by simp, by simp⟩ ?_
  rintro m vs h3 ⟨pf, rest, k, x1, x2, x3, x4, rfl, rfl, R3, hF3, hS, hl, hk'⟩
  have R3' := R3
  obtain ⟨ok3, hr3, hs3, ne3⟩ := R3
  simp only [List.length_append] at hr3
  cases rest with
  | nil =>
    simp only [mountS, List.append_nil] at hS hs3 R3'
    subst hS
    have T1 := R3'.top (D' := { s := mountS (pickF picks) D.s 0, off := false, left := D.left }) ⟨R3'.ok.pos, R3'.ok.len, R3'.ok.left⟩ rfl
    have T := T1.top (D' := D.mount picks) ⟨by simpa [Dsk.mount] using R3'.ok.pos, by simpa [Dsk.mount] using R3'.ok.len, by simp [Dsk.mount]⟩ rfl
    simp only [List.length_nil, Nat.add_zero] at hr3
    replace fx := aI @hr3 @List.length_nil.{0}
    (first | refine go ?_ | exact goC | skip); repeat' (first | refine gP ?_ | exact gPc | refine gN ?_ | exact gNc | (refine gI ?_ ?_ <;> intro hyp <;> first | refine goF ?_ | exact goFc | refine goT ?_ | exact goTc | skip))
    exact ⟨T, hF3.trans ((fr_r ..).trans (fr_r ..))⟩
  | cons x rest =>
    have hk : pf.length < (pf ++ x :: rest).length := by simp
    obtain ⟨q0, q1, q2, q3⟩ := sec_ld (pf ++ x :: rest) pf.length hk true 4 true
    rw [nth_app] at q2
    simp only [List.length_cons] at hl hr3
    cases hx : x.next with
    | none =>
      rw [hx] at q2
      replace fx := aI @hr3 (aI @hs3 (aI @q2 (aI @Option.isSome_none.{0} @List.length_cons.{0})))
      (first | refine go ?_ | exact goC | skip); repeat' (first | refine gP ?_ | exact gPc | refine gN ?_ | exact gNc | (refine gI ?_ ?_ <;> intro hyp <;> first | refine goF ?_ | exact goFc | refine goT ?_ | exact goTc | skip))
      refine lp_n ⟨rest.length, by simp, pf ++ [x], rest, k, _, _, _, _, rfl, by simp only [List.length_append, List.length_cons, List.length_nil, Nat.zero_add]; push_cast; rfl, by simpa using R3', hF3, by simp only [mountS, hx] at hS; simpa using hS, by simp; omega, by simp; omega⟩
    | some v =>
      rw [hx] at q2
      by_cases hjp : k < picks.length
      · replace fx := aI @hr3 (aI @hs3 (aI @q2 (aI @Option.isSome_some.{0} @List.length_cons.{0})))
        (first | refine go ?_ | exact goC | skip); repeat' (first | refine gP ?_ | exact gPc | refine gN ?_ | exact gNc | (refine gI ?_ ?_ <;> intro hyp <;> first | refine goF ?_ | exact goFc | refine goT ?_ | exact goTc | skip))
        refine CV_mono (rsettle_c R3' hk (by rw [nth_app]; exact hx) (nth picks k)) ?_
        rintro u h4 ⟨R4, hF4⟩
        rw [nth_app] at R4
        simp only [set_app] at R4
        replace fx := Dum_eq
        (first | refine go ?_ | exact goC | skip); repeat' (first | refine gP ?_ | exact gPc | refine gN ?_ | exact gNc | (refine gI ?_ ?_ <;> intro hyp <;> first | refine goF ?_ | exact goFc | refine goT ?_ | exact goTc | skip))
        refine lp_n ⟨rest.length, by simp, pf ++ [settle x (nth picks k)], rest, k + 1, _, _, _, _, rfl, by simp only [List.length_append, List.length_cons, List.length_nil, Nat.zero_add]; push_cast; rfl, R4, hF3.trans hF4, by simp only [mountS, hx, pickF, if_pos hjp] at hS; simpa using hS, by simp; omega, by simp; omega⟩
      · replace fx := aI @hr3 (aI @hs3 (aI @q2 (aI @Option.isSome_some.{0} @List.length_cons.{0})))
        (first | refine go ?_ | exact goC | skip); repeat' (first | refine gP ?_ | exact gPc | refine gN ?_ | exact gNc | (refine gI ?_ ?_ <;> intro hyp <;> first | refine goF ?_ | exact goFc | refine goT ?_ | exact goTc | skip))
        refine CV_mono (rsettle_c R3' hk (by rw [nth_app]; exact hx) 64) ?_
        rintro u h4 ⟨R4, hF4⟩
        rw [nth_app] at R4
        simp only [set_app] at R4
        replace fx := Dum_eq
        (first | refine go ?_ | exact goC | skip); repeat' (first | refine gP ?_ | exact gPc | refine gN ?_ | exact gNc | (refine gI ?_ ?_ <;> intro hyp <;> first | refine goF ?_ | exact goFc | refine goT ?_ | exact goTc | skip))
        refine lp_n ⟨rest.length, by simp, pf ++ [settle x 64], rest, k + 1, _, _, _, _, rfl, by simp only [List.length_append, List.length_cons, List.length_nil, Nat.zero_add]; push_cast; rfl, R4, hF3.trans hF4, by simp only [mountS, hx, pickF, if_neg hjp] at hS; simpa using hS, by simp; omega, by simp; omega⟩
end Go.Proofs.YtjofjgflcogklaaGreatDoor

namespace Go.Proofs.YtjofjgflcogklaaGreatDoor
open Go Go.Abs
variable {h : Heap} {d b p w r s : Nat} {D : Dsk}
theorem range_filter_succ (q : Nat → Bool) (i : Nat) : (List.range (i + 1)).filter q = (List.range i).filter q ++ (if q i then [i] else []) := by
  rw [List.range_succ, List.filter_append]
  cases h : q i <;> simp [List.filter, h]
end Go.Proofs.YtjofjgflcogklaaGreatDoor

namespace Go.Proofs.YtjofjgflcogklaaGreatDoor
open Go Go.Abs
variable {h : Heap} {d b p w r s : Nat} {D : Dsk}
theorem take_succ_nth {α : Type} [Inhabited α] (l : List α) {i : Nat} (hi : i < l.length) : l.take (i + 1) = l.take i ++ [nth l i] := by
  rw [List.take_add_one, List.getElem?_eq_getElem hi]
  simp [nth, List.getD_eq_getElem?_getD, hi]
theorem rimage_c (R : RD h r s D) : CV F 36 [.ptr r 0] h (fun v h' => ∃ tk, v = .sl ((imageL D).map strV) tk ∧ Fr (fun _ => False) h h') := by
  have R0 := R
  obtain ⟨ok, hr, hs, ne⟩ := R
  have hlen := ok.len
  refine CV_wp (fn := c36) rfl ?_
  dsimp only [c36]
  replace fx := Dum_eq
  (first | refine go ?_ | exact goC | skip); repeat' (first | refine gP ?_ | exact gPc | refine gN ?_ | exact gNc | (refine gI ?_ ?_ <;> intro hyp <;> first | refine goF ?_ | exact goFc | refine goT ?_ | exact goTc | skip))
  refine w_loop (fun m vs h3 => ∃ (i : Nat) (tk : Tok) (x1 x2 : AVal), m = D.s.length - i ∧ i ≤ D.s.length ∧ vs = [.ptr r 0, x1, .sl (((D.s.take i).map fun x => x.text.1).map strV) tk, .int .i64 (i : Int), x2] ∧
    Fr (fun _ => False) h h3 ∧ Grow h3 9 1 tk ∧ (tk = .nil ↔ ((D.s.take i).map fun x => x.text.1) = []) ∧ (∀ i s, tk = .own i s → h.next ≤ i)) D.s.length
    ⟨0, .nil, _, _, by omega, by omega, rfl, Fr.refl _ _, .inl rfl, by simp, by simp⟩ ?_
  rintro m vs h3 ⟨i, tk, x1, x2, rfl, hi, rfl, hF, hg, hnil, hown⟩
  have hr3 := hF.get hr (by simp)
  have hs3 := hF.get hs (by simp)
  by_cases hil : i < D.s.length
  · obtain ⟨q0, q1, q2, q3⟩ := sec_ld D.s i hil true 4 true
    have hn : (D.s.take (i + 1)).map (fun x => x.text.1) = (D.s.take i).map (fun x => x.text.1) ++ [(nth D.s i).text.1] := by rw [take_succ_nth _ hil, List.map_append]; rfl
    generalize hL : (D.s.take i).map (fun x => x.text.1) = L at *
    have hLl : L.length ≤ i := by rw [← hL]; simp; omega
    replace fx := aI @hr3 (aI @hs3 @q0)
    (first | refine go ?_ | exact goC | skip); repeat' (first | refine gP ?_ | exact gPc | refine gN ?_ | exact gNc | (refine gI ?_ ?_ <;> intro hyp <;> first | refine goF ?_ | exact goFc | refine goT ?_ | exact goTc | skip))
    refine append_K (f := strV) (tk := tk) L [(nth D.s i).text.1] (fun _ => rfl) (fun _ => rfl) (fun _ => rfl) rfl rfl hg hnil (by simp; omega) (by omega) (by omega) (by omega) ?_
    intro h4 tk4 g4 n4 le4 k4 f4 o4
    replace fx := Dum_eq
    (first | refine go ?_ | exact goC | skip); repeat' (first | refine gP ?_ | exact gPc | refine gN ?_ | exact gNc | (refine gI ?_ ?_ <;> intro hyp <;> first | refine goF ?_ | exact goFc | refine goT ?_ | exact goTc | skip))
    refine lp_n ⟨_, by omega, i + 1, tk4, _, _, rfl, by omega, by rw [hn]; push_cast; rfl, ⟨Nat.le_trans hF.1 le4, fun j hj _ => ?_⟩, g4, by rw [hn]; exact n4, fun j z e => ?_⟩
    · rw [f4 j (by have := hF.1; omega) (fun q z e => by have := hown q z e; omega)]; exact hF.2 j hj (by simp)
    · rcases o4 j z e with e | e
      · exact hown j z e
      · have := hF.1; omega
  · have e : i = D.s.length := by omega
    subst e
    replace fx := aI @hr3 @hs3
    (first | refine go ?_ | exact goC | skip); repeat' (first | refine gP ?_ | exact gPc | refine gN ?_ | exact gNc | (refine gI ?_ ?_ <;> intro hyp <;> first | refine goF ?_ | exact goFc | refine goT ?_ | exact goTc | skip))
    exact ⟨tk, by rw [List.take_length]; rfl, hF⟩
theorem rd_fresh (h : Heap) {D : Dsk} (ok : D.ok) :
    RD ((h.push (.row true 4 true (flat (D.s.map secV)))).push (.row true 0 true [.ref h.next 0 D.s.length 4, .bool D.off, .int .i64 (leftI D.left)])) (h.next + 1) h.next D :=
  ⟨ok, get_push_eq (by simp only [push_next]), by rw [get_push_ne (by simp only [push_next]; omega)]; exact get_push_eq rfl, by omega⟩
end Go.Proofs.YtjofjgflcogklaaGreatDoor

namespace Go.Proofs.YtjofjgflcogklaaGreatDoor
open Go Go.Abs
variable {h : Heap} {d b p w r s : Nat} {D : Dsk}
theorem zero_bytes : zerosV = (List.replicate 64 (0 : UInt8)).map byteV := by
  rw [List.map_replicate]; rfl
theorem b2s_zero (h : Heap) (mu : Bool) (s : Nat) (a : Bool) : b2sM 0 64 h (some (.row mu s a zerosV)) = some (.str zeroB.1, h) := b2sM_row (by rw [zerosV_len]; omega) (by rw [List.drop_zero, List.take_of_length_le (by rw [zerosV_len]; omega)]; exact zero_bytes)
def zeroS : Sec := ⟨zeroB, none, false⟩
theorem toNat64 : Int.toNat 64 = 64 := rfl
theorem app_first (H : Heap) : appendA true 83 40 4 true (.sl [] .nil) (.sl [.agg [.str zeroB.1, .str [], .bool false, .bool false]] .none) H = some (.ref H.next 0 1 4, H.push (.row true 4 true [.str zeroB.1, .str [], .bool false, .bool false])) := by
  have e : elemsA H 4 (.sl [.agg [.str zeroB.1, .str [], .bool false, .bool false]] .none) = some [.str zeroB.1, .str [], .bool false, .bool false] := by
    simp only [elemsA]
    rw [if_pos]
    · rfl
    · intro y hy; simp at hy; subst hy; rfl
  have hroom : roomOk 1 40 = true := by simp only [roomOk, Bool.and_eq_true, decide_eq_true_eq]; omega
  have hsm : small 4 = true := by first | rfl | decide
  simp [appendA, lenA, e, hroom, hsm]
theorem app_next {H : Heap} {s i : Nat} (h1 : 1 ≤ i) (hi : i < 4096) (hs : H.get s = some (.row true 4 true (flat ((List.replicate i zeroS).map secV)))) : appendA true 83 40 4 true (.ref s 0 i 4) (.sl [.agg [.str zeroB.1, .str [], .bool false, .bool false]] .none) H =
    some (.ref H.next 0 (i + 1) 4, (H.put s none).push (.row true 4 true (flat ((List.replicate (i + 1) zeroS).map secV)))) := by
  have e : elemsA H 4 (.sl [.agg [.str zeroB.1, .str [], .bool false, .bool false]] .none) = some [.str zeroB.1, .str [], .bool false, .bool false] := by
    simp only [elemsA]
    rw [if_pos]
    · rfl
    · intro y hy; simp at hy; subst hy; rfl
  have hfl : (flat ((List.replicate i zeroS).map secV)).length = i * 4 := by rw [flatm_len secV_len]; simp
  have hroom : roomOk (i + 1) 40 = true := by simp only [roomOk, Bool.and_eq_true, decide_eq_true_eq]; omega
  have hsm : small 4 = true := by first | rfl | decide
  have hcs : flat ((List.replicate (i + 1) zeroS).map secV) = flat ((List.replicate i zeroS).map secV) ++ [.str zeroB.1, .str [], .bool false, .bool false] := by
    rw [List.replicate_succ', List.map_append, flat_appendF]; rfl
  rw [hcs]
  simp only [appendA, lenA, e, hs, List.length_cons, List.length_nil, Nat.zero_add]
  rw [List.map_replicate] at hfl
  simp [hfl, hroom, hsm]
theorem repl64a : repl (Int.toNat 64) [AVal.int .u8 0] = zerosV := by rfl
theorem b2s_zeroa (h : Heap) (mu : Bool) (s : Nat) (a : Bool) : b2sM 0 (Int.toNat 64) h (some (.row mu s a zerosV)) = some (.str zeroB.1, h) := b2s_zero h mu s a
theorem repl64 : repl 64 [AVal.int .u8 0] = zerosV := by rfl
theorem mk64 (h : Heap) : mkslA 1 1 false [.int .u8 0] (.int .i64 64) (.int .i64 64) h = some (.ref h.next 0 64 1, h.push (.row true 1 false zerosV)) := by
  rw [mksl_int 1 1 false [.int .u8 0] .i64 .i64 64 h (by omega) (by omega) (by omega) rfl rfl rfl]; rfl
def Half (h3 : Heap) (r i : Nat) (b : Nat) : Prop := (i = 0 ∧ h3.get r = some (.row true 0 true [.sl [] .nil, .bool false, .int .i64 (-1)])) ∨
  ∃ s, 1 ≤ i ∧ b ≤ s ∧ s ≠ r ∧ h3.get r = some (.row true 0 true [.ref s 0 i 4, .bool false, .int .i64 (-1)]) ∧ h3.get s = some (.row true 4 true (flat ((List.replicate i zeroS).map secV)))
theorem rnew_c (n : Int) (h : Heap) (hn : 1 ≤ n ∧ n ≤ 4096) : CV F 9 [.int .i64 n] h (fun v h' => ∃ r s, v = .tup [.ptr r 0, .int .i64 0] ∧ RD h' r s (freshD n.toNat) ∧ Fr (fun _ => False) h h' ∧ ∀ j, RS r s j → h.next ≤ j) := by
  obtain ⟨k, rfl⟩ : ∃ k : Nat, n = (k : Int) := ⟨n.toNat, by omega⟩
  refine CV_wp (fn := c9) rfl ?_
  dsimp only [c9]
  replace fx := Dum_eq
  (first | refine go ?_ | exact goC | skip); repeat' (first | refine gP ?_ | exact gPc | refine gN ?_ | exact gNc | (refine gI ?_ ?_ <;> intro hyp <;> first | refine goF ?_ | exact goFc | refine goT ?_ | exact goTc | skip))
  refine w_loop (fun m vs h3 => ∃ (i : Nat) (x1 x2 x3 x4 : AVal), m = k - i ∧ i ≤ k ∧ vs = [.int .i64 (k : Int), x1, x2, .ptr h.next 0, .int .i64 (i : Int), x3, x4] ∧
    Fr (fun _ => False) h h3 ∧ h.next < h3.next ∧ Half h3 h.next i h.next) k
    ⟨0, _, _, _, _, by omega, by omega, rfl, (Fr.refl _ _).push _, by simp only [push_next]; omega, .inl ⟨rfl, get_push_eq rfl⟩⟩ ?_
  rintro m vs h3 ⟨i, x1, x2, x3, x4, rfl, hi, rfl, hF, hn3, hH⟩
  by_cases hik : i < k
  · rcases hH with ⟨rfl, q1⟩ | ⟨s, hi1, hbs, hsr, q1, q2⟩
    · replace fx := aI @q1 (aI @mk64 (aI @b2s_zero (aI @zerosV_len (aI @zerosV_one @app_first))))
      (first | refine go ?_ | exact goC | skip); repeat' (first | refine gP ?_ | exact gPc | refine gN ?_ | exact gNc | (refine gI ?_ ?_ <;> intro hyp <;> first | refine goF ?_ | exact goFc | refine goT ?_ | exact goTc | skip))
      refine lp_n ⟨k - 1, by omega, 1, _, _, _, _, rfl, by omega, rfl, ((hF.put (.inr (Nat.le_refl _)) _).push _).push _, by simp only [push_next, put_next]; omega, .inr ⟨h3.next + 1, by omega, by omega, by omega, ?_, get_push_eq (by simp only [push_next, put_next])⟩⟩
      rw [get_push_ne (by simp only [push_next, put_next]; omega), get_push_ne (by simp only [put_next]; omega)]
      exact get_put_old q1
    · have hsl := get_lt q2
      have hA := app_next (H := h3.push (.row true 1 false zerosV)) hi1 (by omega) (by rw [get_push_ne (Nat.ne_of_lt hsl)]; exact q2)
      replace fx := aI @q1 (aI @mk64 (aI @b2s_zero (aI @zerosV_len (aI @zerosV_one @hA))))
      (first | refine go ?_ | exact goC | skip); repeat' (first | refine gP ?_ | exact gPc | refine gN ?_ | exact gNc | (refine gI ?_ ?_ <;> intro hyp <;> first | refine goF ?_ | exact goFc | refine goT ?_ | exact goTc | skip))
      refine lp_n ⟨k - (i + 1), by omega, i + 1, _, _, _, _, rfl, by omega, by push_cast; rfl, (((hF.put (.inr hbs) none).put (.inr (Nat.le_refl _)) _).push _).push _, by simp only [push_next, put_next]; omega, .inr ⟨h3.next + 1, by omega, by omega, by omega, ?_, get_push_eq (by simp only [push_next, put_next])⟩⟩
      rw [get_push_ne (by simp only [push_next, put_next]; omega), get_push_ne (by simp only [put_next]; omega)]
      exact get_put_old (o1 := .row true 0 true [.ref s 0 i 4, .bool false, .int .i64 (-1)]) (by rw [get_put_ne (Ne.symm hsr)]; exact q1)
  · have e : i = k := by omega
    subst e
    rcases hH with ⟨rfl, q1⟩ | ⟨s, hi1, hbs, hsr, q1, q2⟩
    · omega
    · replace fx := Dum_eq
      (first | refine go ?_ | exact goC | skip); repeat' (first | refine gP ?_ | exact gPc | refine gN ?_ | exact gNc | (refine gI ?_ ?_ <;> intro hyp <;> first | refine goF ?_ | exact goFc | refine goT ?_ | exact goTc | skip))
      have hok := freshD_ok (n := i) (by omega) (by omega)
      refine ⟨_, _, rfl, ⟨hok, by simpa [freshD, leftI] using q1, by simpa [freshD, zeroS] using q2, Ne.symm hsr⟩, hF, ?_⟩
      rintro j (rfl | rfl) <;> omega
end Go.Proofs.YtjofjgflcogklaaGreatDoor

set_option linter.defProp false
namespace Go.Abs
variable {h : Heap} {K : AVal → Heap → Prop} {F : Nat → Option AEnt}
theorem asB (l : List UInt8) (id off n : Nat) (h : Heap) (mu : Bool) (s : Nat) (ag : Bool) (hl : off + n ≤ l.length) : asM id off n 1 h (some (.row mu s ag (l.map byteV))) = some (.ref id off n 1, h) := asM_row (by rw [List.length_map]; omega) (by omega)
theorem asB2 (l : List UInt8) (id off n : Nat) (b : Int) (h : Heap) (mu : Bool) (s : Nat) (ag : Bool) (hl : off + n ≤ l.length) (h0 : 0 ≤ b) (h1 : b ≤ n) : asM2 id off n 1 b h (some (.row mu s ag (l.map byteV))) = some (.ref id off b.toNat 1, h) := asM2_row (by rw [List.length_map]; omega) (by omega) h0 h1
theorem asB3 (l : List UInt8) (id off n : Nat) (a : Int) (h : Heap) (mu : Bool) (s : Nat) (ag : Bool) (hl : off + n ≤ l.length) : asM3 id off n 1 a h (some (.row mu s ag (l.map byteV))) = some (.ref id (off + a.toNat) (n - a.toNat) 1, h) := by
  rw [asM3_row (by rw [List.length_map]; omega) (by omega), Nat.mul_one]
theorem asB4 (l : List UInt8) (id off n : Nat) (a b : Int) (h : Heap) (mu : Bool) (s : Nat) (ag : Bool) (hl : off + n ≤ l.length) : asM4 id off n 1 a b h (some (.row mu s ag (l.map byteV))) = some (.ref id (off + a.toNat) (b.toNat - a.toNat) 1, h) := by
  rw [asM4_row (by rw [List.length_map]; omega) (by omega), Nat.mul_one]
theorem b2sB (l : List UInt8) (off n : Nat) (h : Heap) (mu : Bool) (s : Nat) (ag : Bool) (hl : off + n ≤ l.length) : b2sM off n h (some (.row mu s ag (l.map byteV))) = some (.str ((l.drop off).take n), h) :=
  b2sM_row (by rw [List.length_map]; exact hl) (by rw [List.map_take, List.map_drop])
theorem X_as_tfP (n sz : Nat) (ag : Bool) (id off : Nat) (k : IntKind) (a : Int) (h : Heap) (h0 : 0 ≤ a) (h1 : a ≤ n) : evalX (.aslice n sz ag true false) [.ptr id off, .int k a] h = asM3 id off n sz a h (h.get id) := X_as_tf n sz ag id off k a h h0 h1
def bR := And.intro @asB (And.intro @asB2 (And.intro @asB3 (And.intro @asB4 (And.intro @b2sB (And.intro @byte_cells @byte_one)))))
theorem bytes_all (l : List UInt8) : (l.map byteV).all AVal.one = true := by simp [byte_one]
theorem strip_bytes (l : List UInt8) : stripL (l.map byteV) = some (l.map byteV) := by
  induction l with
  | nil => rfl
  | cons x l ih => simp only [List.map_cons, stripL, ih, byteV, st_int]
theorem pure_bytes (h : Heap) (l : List UInt8) : purifyL h (l.map byteV) = some (l.map byteV) := by
  induction l with
  | nil => rfl
  | cons x l ih => simp only [List.map_cons, puL_cons, ih, byteV, pu_int, sc_some]
theorem readRef_bytes {l : List UInt8} {id off n : Nat} {mu : Bool} {S : Nat} {ag : Bool} (g : h.get id = some (.row mu S ag (l.map byteV))) (hS : S ≠ 1) (hl : off + n ≤ l.length) : readRef h id off n 1 = some (((l.drop off).take n).map byteV) := by
  unfold readRef
  simp only [g]
  rw [if_pos ⟨.inr trivial, by rw [List.length_map]; omega⟩]
  simp only [strip_bytes, hS, decide_false, Bool.and_false]
  have hc := chunkm (f := byteV) (sz := 1) byte_len false (fun x => rfl) ((l.drop off).take n) (((l.drop off).drop n).map byteV)
  have hn : ((l.drop off).take n).length = n := by rw [List.length_take, List.length_drop]; omega
  rw [hn] at hc
  have e : (l.map byteV).drop off = flat (((l.drop off).take n).map byteV) ++ ((l.drop off).drop n).map byteV := by
    rw [flat_byte, ← List.map_append, List.take_append_drop, List.map_drop]
  rw [e]; exact hc
theorem pu_bytes {l : List UInt8} {id off n : Nat} {mu : Bool} {S : Nat} {ag : Bool} (g : h.get id = some (.row mu S ag (l.map byteV))) (hS : S ≠ 1) (hl : off + n ≤ l.length) : purify h (.ref id off n 1) = some (.sl (((l.drop off).take n).map byteV) .none) := by
  rw [pu_ref, readRef_bytes g hS hl]; rfl
theorem puL_1 {x x' : AVal} (h1 : purify h x = some x') : purifyL h [x] = some [x'] := by rw [puL_cons, h1, puL_nil]; rfl
theorem puL_2 {x x' y y' : AVal} (h1 : purify h x = some x') (h2 : purify h y = some y') : purifyL h [x, y] = some [x', y'] := by rw [puL_cons, h1, puL_1 h2]; rfl
theorem PC_lend {f : Nat} {args : List AVal} {asx : List AVal} {r : AVal} (hs : purifyL h args = some asx) (g : CV F f asx Heap.empty (fun v _ => v = r)) (hsc : scal r = true) (k : K r h) : PC F f none args h K := by
  obtain ⟨v, h', g, rfl⟩ := g
  exact PC_none.2 ⟨asx, hs, v, h', GV_of g, hsc, k⟩
theorem scal_bytes (l : List UInt8) : scal (.agg (l.map byteV)) = true := by
  have : scalL (l.map byteV) = true := by
    induction l with
    | nil => rfl
    | cons x l ih => simp only [List.map_cons, scalL, ih, byteV, scal, Bool.and_self]
  exact this
theorem zeros_b (n : Nat) : List.replicate n (AVal.int .u8 0) = (List.replicate n (0 : UInt8)).map byteV := by rw [List.map_replicate]; rfl
theorem set_bytes (l m : List UInt8) (hl : l.length = m.length) : setCells (l.map byteV) 0 (m.map byteV) = m.map byteV := setCells_all _ _ (by simp [hl])
def GrF {α : Type} (S : Nat → Prop) (h0 h : Heap) (ty sz : Nat) (l : List α) (tk : Tok) : Prop := Gr h ty sz l tk ∧ Fr S h0 h ∧ ∀ i s, tk = .own i s → h0.next ≤ i
theorem GrF.gr {α : Type} {S : Nat → Prop} {h0 h : Heap} {ty sz : Nat} {l : List α} {tk : Tok} (g : GrF S h0 h ty sz l tk) : Gr h ty sz l tk := g.1
theorem GrF.fr {α : Type} {S : Nat → Prop} {h0 h : Heap} {ty sz : Nat} {l : List α} {tk : Tok} (g : GrF S h0 h ty sz l tk) : Fr S h0 h := g.2.1
theorem Gr.nil {α : Type} (h : Heap) (ty sz : Nat) : Gr h ty sz ([] : List α) .nil := .inl ⟨rfl, .inl rfl⟩
theorem GrF.nil {α : Type} (S : Nat → Prop) (h : Heap) (ty sz : Nat) : GrF S h h ty sz ([] : List α) .nil := ⟨Gr.nil h ty sz, Fr.refl _ _, by simp⟩
theorem Gr.fr {α : Type} {S : Nat → Prop} {h h' : Heap} {ty sz : Nat} {l : List α} {tk : Tok} (g : Gr h ty sz l tk) (f : Fr S h h') (hS : ∀ i s, tk = .own i s → ¬ S i) : Gr h' ty sz l tk := by
  rcases g with g | ⟨i, e, g⟩
  · exact .inl g
  · exact .inr ⟨i, e, by rw [f.2 i (get_lt g) (hS i sz e)]; exact g⟩
theorem GrF.step {α : Type} {S : Nat → Prop} {h0 h h' : Heap} {ty sz : Nat} {l : List α} {tk : Tok} (g : GrF S h0 h ty sz l tk) (f : Fr (fun _ => False) h h') : GrF S h0 h' ty sz l tk :=
  ⟨g.1.fr f (fun _ _ _ q => q), g.2.1.trans ⟨f.1, fun j hj _ => f.2 j hj (fun q => q)⟩, g.2.2⟩
theorem append_F {α : Type} [Inhabited α] {f : α → AVal} {sz : Nat} {S : Nat → Prop} {h0 h : Heap} {ty bytes : Nat} {ag : Bool} {tk : Tok} {y : AVal} (l ys : List α) (hf : ∀ x, (f x).cells.length = sz) (hm : ∀ x, mk ag (f x).cells = some (f x)) (hs : ∀ x, stripL (f x).cells = some (f x).cells)
    (hy : lenA y = some ys.length) (hn : elemsA h sz y = some (flat (ys.map f))) (hg : GrF S h0 h ty sz l tk) (hlen : l.length + ys.length ≤ 1000000) (hb : bytes ≤ 10000) (hz0 : 0 < sz) (hz1 : sz < 1000000)
    (q : ∀ h' tk', GrF S h0 h' ty sz (l ++ ys) tk' → h.next ≤ h'.next → (∀ j mu s a cs, h.get j = some (.row mu s a cs) → h'.get j = some (.row mu s a cs)) → (∀ j, j < h.next → (∀ i s, tk = .own i s → j ≠ i) → h'.get j = h.get j) → K (.sl ((l ++ ys).map f) tk') h') : bindH (appendA false ty bytes sz ag (.sl (l.map f) tk) y h) K := by
  obtain ⟨g1, g2, g3⟩ := hg
  by_cases hne : ys = []
  · subst hne
    refine ⟨_, h, by simp only [appendA, hy, hn, List.length_nil, if_true]; rfl, ?_⟩
    have := q h tk (by rw [List.append_nil]; exact ⟨g1, g2, g3⟩) (Nat.le_refl _) (fun _ _ _ _ _ h => h) (fun _ _ _ => rfl)
    rwa [List.append_nil] at this
  · rcases g1 with ⟨rfl, ht⟩ | ⟨id, rfl, hg⟩
    · refine append_new (f := f) ys ht hf hm hs hy hn (by simpa using hlen) hb hz0 hz1 hne (q _ _ ⟨.inr ⟨_, rfl, get_push_eq rfl⟩, g2.push _, fun i s e => ?_⟩ (by rw [push_next]; omega) (fun j mu s a cs hj => get_push_old hj) (fun j hj _ => get_push_ne (by omega)))
      simp only [Tok.own.injEq] at e
      have := g2.1; omega
    · obtain ⟨h', e, e1, e2, e3⟩ := append_own (bytes := bytes) hf hm hs hy hn (.inr ⟨id, rfl, hg⟩) (by simp) hlen hb hz0 hz1 hne
      have hid := g3 id sz rfl
      refine ⟨_, h', e, q h' _ ⟨.inr ⟨_, rfl, e2⟩, ⟨by have := g2.1; omega, fun j hj hS => ?_⟩, fun i s e => ?_⟩ (by omega) (fun j mu s a cs hj => ?_) e3⟩
      · rw [e3 j (by have := g2.1; omega) (by rintro i s' e rfl; simp only [Tok.own.injEq] at e; omega)]
        exact g2.2 j hj hS
      · simp only [Tok.own.injEq] at e
        have := g2.1; omega
      · rw [e3 j (get_lt hj)]
        · exact hj
        · rintro i s' e rfl
          simp only [Tok.own.injEq] at e
          rw [e.1, hj] at hg
          simp at hg
theorem Gr.toF {α : Type} {h : Heap} {ty sz : Nat} {l : List α} {tk : Tok} (g : Gr h ty sz l tk) : GrF (fun _ => False) Heap.empty h ty sz l tk := ⟨g, ⟨Nat.zero_le _, fun j hj => absurd hj (Nat.not_lt_zero j)⟩, fun _ _ _ => Nat.zero_le _⟩
theorem str_len (s : List UInt8) : (AVal.str s).cells.length = 1 := rfl
end Go.Abs

namespace Go.Proofs.YtjofjgflcogklaaGreatDoor
open Go Go.Abs Go.Sha Go.Jn
theorem count_v (n : Int) : PV F 16 [.int .i64 n] = some (.int .i64 (count n : Int)) := by
  refine PV_wp (fn := c16) rfl ?_
  dsimp only [c16]
  by_cases h : n < 0 ∨ 8000 < n
  · rw [show count n = 0 from if_pos h]
    replace fx := Dum_eq
    (first | refine go ?_ | exact goC | skip); repeat' (first | refine gP ?_ | exact gPc | refine gN ?_ | exact gNc | (refine gI ?_ ?_ <;> intro hyp <;> first | refine goF ?_ | exact goFc | refine goT ?_ | exact goTc | skip))
    all_goals rfl
  · obtain ⟨k, rfl⟩ : ∃ k : Nat, n = (k : Int) := ⟨n.toNat, by omega⟩
    have hq : Int.tdiv ((k : Int) + 48 - 1) 48 = (((k + 47) / 48 : Nat) : Int) := by
      rw [Int.tdiv_eq_ediv_of_nonneg (by omega)]; omega
    have hm : max (1 : Int) (((k + 47) / 48 : Nat) : Int) = (count (k : Int) : Int) := by
      rw [count_nat k (by omega)]
      split <;> omega
    replace fx := aI @hq (aI @XW_mnxK (aI @mnx_max @hm))
    (first | refine go ?_ | exact goC | skip); repeat' (first | refine gP ?_ | exact gPc | refine gN ?_ | exact gNc | (refine gI ?_ ?_ <;> intro hyp <;> first | refine goF ?_ | exact goFc | refine goT ?_ | exact goTc | skip))
theorem rcount_v (n : Int) : PV F 56 [.int .i64 n] = some (.int .i64 (count n : Int)) := by
  refine PV_wp (fn := c56) rfl ?_
  dsimp only [c56]
  by_cases h : n < 0 ∨ 8000 < n
  · rw [show count n = 0 from if_pos h]
    replace fx := Dum_eq
    (first | refine go ?_ | exact goC | skip); repeat' (first | refine gP ?_ | exact gPc | refine gN ?_ | exact gNc | (refine gI ?_ ?_ <;> intro hyp <;> first | refine goF ?_ | exact goFc | refine goT ?_ | exact goTc | skip))
    all_goals rfl
  · obtain ⟨k, rfl⟩ : ∃ k : Nat, n = (k : Int) := ⟨n.toNat, by omega⟩
    have hq : Int.tdiv ((k : Int) + 47) 48 = (((k + 47) / 48 : Nat) : Int) := by
      rw [Int.tdiv_eq_ediv_of_nonneg (by omega)]; omega
    by_cases h0 : k = 0
    · rw [show count (k : Int) = 1 by rw [count_nat k (by omega), if_pos h0]]
      replace fx := Dum_eq
      (first | refine go ?_ | exact goC | skip); repeat' (first | refine gP ?_ | exact gPc | refine gN ?_ | exact gNc | (refine gI ?_ ?_ <;> intro hyp <;> first | refine goF ?_ | exact goFc | refine goT ?_ | exact goTc | skip))
      rfl
    · rw [show count (k : Int) = (k + 47) / 48 by rw [count_nat k (by omega), if_neg h0]]
      replace fx := @hq
      (first | refine go ?_ | exact goC | skip); repeat' (first | refine gP ?_ | exact gPc | refine gN ?_ | exact gNc | (refine gI ?_ ?_ <;> intro hyp <;> first | refine goF ?_ | exact goFc | refine goT ?_ | exact goTc | skip))
theorem num_drop (s : Bs) {k : Nat} (hk : k < s.length) : num (s.drop k) = (nth s k).toNat + 256 * num (s.drop (k + 1)) := by
  rw [List.drop_eq_getElem_cons hk, num, nth_eq hk]
theorem number_v (s : Bs) (hs : s.length ≤ 6) : PV F 79 [.str s] = some (.int .i64 (num s : Int)) := by
  refine PV_wp (fn := c79) rfl ?_
  dsimp only [c79]
  replace fx := Dum_eq
  (first | refine go ?_ | exact goC | skip); repeat' (first | refine gP ?_ | exact gPc | refine gN ?_ | exact gNc | (refine gI ?_ ?_ <;> intro hyp <;> first | refine goF ?_ | exact goFc | refine goT ?_ | exact goTc | skip))
  refine w_loop (fun m vs h => ∃ (k : Nat) (x1 x2 : AVal), m = k ∧ k ≤ s.length ∧ vs = [.str s, x1, .int .i64 (num (s.drop k) : Int), .int .i64 ((k : Int) - 1), x2]) s.length
    ⟨s.length, _, _, rfl, by omega, by rw [List.drop_length]; rfl⟩ ?_
  rintro k vs h ⟨_, x1, x2, rfl, hk, rfl⟩
  have hlt : num (s.drop k) < 281474976710656 := by
    have := num_lt (s.drop k)
    have h2 : 256 ^ (s.drop k).length ≤ 256 ^ 6 := Nat.pow_le_pow_right (by omega) (by rw [List.length_drop]; omega)
    exact Nat.lt_of_lt_of_le this h2
  cases k with
  | zero =>
    replace fx := Dum_eq
    (first | refine go ?_ | exact goC | skip); repeat' (first | refine gP ?_ | exact gPc | refine gN ?_ | exact gNc | (refine gI ?_ ?_ <;> intro hyp <;> first | refine goF ?_ | exact goFc | refine goT ?_ | exact goTc | skip))
  | succ k =>
    rw [show ((k + 1 : Nat) : Int) - 1 = (k : Int) by omega]
    have hb : (nth s k).toNat < 256 := (nth s k).toNat_lt
    replace fx := Dum_eq
    (first | refine go ?_ | exact goC | skip); repeat' (first | refine gP ?_ | exact gPc | refine gN ?_ | exact gNc | (refine gI ?_ ?_ <;> intro hyp <;> first | refine goF ?_ | exact goFc | refine goT ?_ | exact goTc | skip))
    exact lp_n ⟨_, by omega, k, _, _, rfl, by omega, by rw [num_drop s (k := k) (by omega), show (((nth s k).toNat + 256 * num (s.drop (k + 1)) : Nat) : Int) = 256 * (num (s.drop (k + 1)) : Int) + ((nth s k).toNat : Int) by omega]⟩
theorem checked_v (b : Bs) (hl : b.length ≤ 900000) : PV F 80 [.sl (b.map byteV) .none] = some (.str (checked b)) := by
  have hp := rsum_v b hl
  have o1 : (List.replicate 32 (0 : UInt8)).length = 32 := by simp
  have hzo := bytes_all (List.replicate 32 (0 : UInt8))
  have ol : (sum b).length = 32 := sum_len b
  have oo := bytes_all (sum b)
  have sc1 := set_bytes (List.replicate 32 (0 : UInt8)) (sum b) (by rw [ol, o1])
  refine PV_wp (fn := c80) rfl ?_
  dsimp only [c80]
  rw [zeros_b]
  have t8 : ((sum b).take 8).length = 8 := by rw [List.length_take, ol]; rfl
  replace fx := aI @aR (aI @bR (aI @hp (aI @o1 (aI @hzo (aI @ol (aI @oo (aI @sc1 @t8)))))))
  (first | refine go ?_ | exact goC | skip); repeat' (first | refine gP ?_ | exact gPc | refine gN ?_ | exact gNc | (refine gI ?_ ?_ <;> intro hyp <;> first | refine goF ?_ | exact goFc | refine goT ?_ | exact goTc | skip))
  rfl
theorem blank_v (s : Bs) (hl : s.length ≤ 1000000) : PV F 55 [.str s] = some (.bool (Jn.blank s)) := by
  refine PV_wp (fn := c55) rfl ?_
  dsimp only [c55]
  replace fx := Dum_eq
  (first | refine go ?_ | exact goC | skip); repeat' (first | refine gP ?_ | exact gPc | refine gN ?_ | exact gNc | (refine gI ?_ ?_ <;> intro hyp <;> first | refine goF ?_ | exact goFc | refine goT ?_ | exact goTc | skip))
  refine w_loop (fun m vs h => ∃ (k : Nat) (x1 x2 x3 : AVal), m = s.length - k ∧ k ≤ s.length ∧ (∀ i, i < k → nth s i = 0) ∧ vs = [.str s, x1, .int .i64 (k : Int), x2, x3]) s.length
    ⟨0, _, _, _, rfl, by omega, fun i hi => by omega, rfl⟩ ?_
  rintro m vs h ⟨k, x1, x2, x3, rfl, hk, hz, rfl⟩
  by_cases hks : k < s.length
  · by_cases h0 : nth s k = 0
    · have e0 : ((nth s k).toNat : Int) = 0 := by rw [h0]; rfl
      replace fx := @e0
      (first | refine go ?_ | exact goC | skip); repeat' (first | refine gP ?_ | exact gPc | refine gN ?_ | exact gNc | (refine gI ?_ ?_ <;> intro hyp <;> first | refine goF ?_ | exact goFc | refine goT ?_ | exact goTc | skip))
      refine lp_n ⟨_, by omega, k + 1, _, _, _, rfl, by omega, fun i hi => ?_, by push_cast; rfl⟩
      by_cases e : i = k
      · rw [e, h0]
      · exact hz i (by omega)
    · have e0 : ¬ ((nth s k).toNat : Int) = 0 := fun q => h0 (UInt8.toNat_inj.1 (by simpa using q))
      have e : Jn.blank s = false := by
        rw [Jn.blank, Bool.eq_false_iff]
        intro q
        have := List.all_eq_true.1 q _ (nth_mem hks)
        simp at this
        exact h0 this
      replace fx := aI @e0 @e
      (first | refine go ?_ | exact goC | skip); repeat' (first | refine gP ?_ | exact gPc | refine gN ?_ | exact gNc | (refine gI ?_ ?_ <;> intro hyp <;> first | refine goF ?_ | exact goFc | refine goT ?_ | exact goTc | skip))
  · have e : Jn.blank s = true := by
      rw [Jn.blank, List.all_eq_true]
      intro x hx
      obtain ⟨i, hi, rfl⟩ := List.getElem_of_mem hx
      have := hz i (by omega)
      rw [nth_eq hi] at this
      simp [this]
    replace fx := @e
    (first | refine go ?_ | exact goC | skip); repeat' (first | refine gP ?_ | exact gPc | refine gN ?_ | exact gNc | (refine gI ?_ ?_ <;> intro hyp <;> first | refine goF ?_ | exact goFc | refine goT ?_ | exact goTc | skip))
theorem has_v (l : List Int) (n : Int) (hl : l.length ≤ 1000000) (t : Tok) (ht : Pt t) : PV F 57 [.sl (l.map (.int .i64)) t, .int .i64 n] = some (.bool (decide (n ∈ l))) := by
  refine PV_wp (fn := c57) rfl ?_
  dsimp only [c57]
  replace fx := Dum_eq
  (first | refine go ?_ | exact goC | skip); repeat' (first | refine gP ?_ | exact gPc | refine gN ?_ | exact gNc | (refine gI ?_ ?_ <;> intro hyp <;> first | refine goF ?_ | exact goFc | refine goT ?_ | exact goTc | skip))
  refine w_loop (fun m vs h => ∃ (k : Nat) (x1 x2 x3 : AVal), m = l.length - k ∧ k ≤ l.length ∧ (∀ i, i < k → nth l i ≠ n) ∧ vs = [.sl (l.map (.int .i64)) t, .int .i64 n, x1, .int .i64 (k : Int), x2, x3]) l.length
    ⟨0, _, _, _, rfl, by omega, fun i hi => by omega, rfl⟩ ?_
  rintro m vs h ⟨k, x1, x2, x3, rfl, hk, hz, rfl⟩
  by_cases hks : k < l.length
  · have hm := nth_mem hks
    by_cases h0 : nth l k = n
    · have e : decide (n ∈ l) = true := decide_eq_true (h0 ▸ hm)
      replace fx := aI @h0 @e
      (first | refine go ?_ | exact goC | skip); repeat' (first | refine gP ?_ | exact gPc | refine gN ?_ | exact gNc | (refine gI ?_ ?_ <;> intro hyp <;> first | refine goF ?_ | exact goFc | refine goT ?_ | exact goTc | skip))
    · replace fx := @h0
      (first | refine go ?_ | exact goC | skip); repeat' (first | refine gP ?_ | exact gPc | refine gN ?_ | exact gNc | (refine gI ?_ ?_ <;> intro hyp <;> first | refine goF ?_ | exact goFc | refine goT ?_ | exact goTc | skip))
      refine lp_n ⟨_, by omega, k + 1, _, _, _, rfl, by omega, fun i hi => ?_, by push_cast; rfl⟩
      by_cases e : i = k
      · rw [e]; exact h0
      · exact hz i (by omega)
  · have e : decide (n ∈ l) = false := by
      refine decide_eq_false fun hx => ?_
      obtain ⟨i, hi, q⟩ := List.getElem_of_mem hx
      exact hz i (by omega) (by rw [nth_eq hi, q])
    replace fx := @e
    (first | refine go ?_ | exact goC | skip); repeat' (first | refine gP ?_ | exact gPc | refine gN ?_ | exact gNc | (refine gI ?_ ?_ <;> intro hyp <;> first | refine goF ?_ | exact goFc | refine goT ?_ | exact goTc | skip))
end Go.Proofs.YtjofjgflcogklaaGreatDoor

namespace Go.Proofs.YtjofjgflcogklaaGreatDoor
open Go Go.Abs Go.Sha Go.Jn
theorem small_c (n : Nat) (hn : n < 9223372036854775808) (many : Nat) (hm : many ≤ 100) (h : Heap) : CV F 81 [.int .i64 (n : Int), .int .i64 (many : Int)] h (fun v h' => ∃ tk, v = .sl ((small n many).map byteV) tk ∧ GrF (fun _ => False) h h' 5 1 (small n many) tk) := by
  refine CV_wp (fn := c81) rfl ?_
  dsimp only [c81]
  replace fx := Dum_eq
  (first | refine go ?_ | exact goC | skip); repeat' (first | refine gP ?_ | exact gPc | refine gN ?_ | exact gNc | (refine gI ?_ ?_ <;> intro hyp <;> first | refine goF ?_ | exact goFc | refine goT ?_ | exact goTc | skip))
  refine w_loop (fun m vs h' => ∃ (k : Nat) (tk : Tok) (x1 x2 : AVal), m = many - k ∧ k ≤ many ∧ vs = [.int .i64 ((n / 256 ^ k : Nat) : Int), .int .i64 (many : Int), x1, .sl ((small n k).map byteV) tk, .int .i64 (k : Int), x2] ∧ GrF (fun _ => False) h h' 5 1 (small n k) tk) many
    ⟨0, .nil, _, _, rfl, by omega, by rw [Nat.pow_zero, Nat.div_one]; rfl, GrF.nil _ _ _ _⟩ ?_
  rintro m vs h' ⟨k, tk, x1, x2, rfl, hk, rfl, G⟩
  have hle : n / 256 ^ k ≤ n := Nat.div_le_self _ _
  have hq1 : n / 256 ^ (k + 1) = n / 256 ^ k / 256 := by rw [Nat.pow_succ, ← Nat.div_div_eq_div_mul]
  have sl := small_len n k
  have ss := small_succ n k
  obtain ⟨q, hq⟩ : ∃ q, q = n / 256 ^ k := ⟨_, rfl⟩
  rw [← hq] at hle hq1 ss ⊢
  clear hq
  by_cases hkm : k < many
  · have e1 : Int.tmod (q : Int) 256 = ((q % 256 : Nat) : Int) := by rw [Int.natCast_emod]; exact Int.tmod_eq_emod_of_nonneg (by omega)
    have e2 : Int.tdiv (q : Int) 256 = ((q / 256 : Nat) : Int) := by
      rw [Int.natCast_ediv]; exact Int.tdiv_eq_ediv_of_nonneg (by omega)
    have e3 : toIntA .u8 (.int .i64 ((q % 256 : Nat) : Int)) = some (byteV (UInt8.ofNat q)) := by
      rw [toU8]
      congr 2
      apply UInt8.toNat_inj.1
      simp
    have lb : ∀ (x : UInt8) H, litA 0 5 1 1 false [.int .u8 0] (some [byteV x]) H = some (.sl (([x] : List UInt8).map byteV) .none, H) := fun x H => lit_none rfl rfl rfl rfl
    replace fx := aI @e1 (aI @e2 (aI @e3 (aI @lb (aI @byte_cells @byte_one))))
    (first | refine go ?_ | exact goC | skip); repeat' (first | refine gP ?_ | exact gPc | refine gN ?_ | exact gNc | (refine gI ?_ ?_ <;> intro hyp <;> first | refine goF ?_ | exact goFc | refine goT ?_ | exact goTc | skip))
    refine append_F (f := byteV) (small n k) [UInt8.ofNat q] byte_len (fun x => rfl) (fun x => rfl) rfl (elems_sl (l := [_]) byte_len) G (by rw [sl]; simp; omega) (by omega) (by omega) (by omega) ?_
    intro h1 tk1 G1 n1 _ _
    rw [← ss] at G1 ⊢
    replace fx := @e2
    (first | refine go ?_ | exact goC | skip); repeat' (first | refine gP ?_ | exact gPc | refine gN ?_ | exact gNc | (refine gI ?_ ?_ <;> intro hyp <;> first | refine goF ?_ | exact goFc | refine goT ?_ | exact goTc | skip))
    exact lp_n ⟨_, by omega, k + 1, tk1, _, _, rfl, by omega, by rw [hq1]; rfl, G1⟩
  · have e : k = many := by omega
    subst e
    replace fx := Dum_eq
    (first | refine go ?_ | exact goC | skip); repeat' (first | refine gP ?_ | exact gPc | refine gN ?_ | exact gNc | (refine gI ?_ ?_ <;> intro hyp <;> first | refine goF ?_ | exact goFc | refine goT ?_ | exact goTc | skip))
    exact ⟨tk, rfl, G⟩
theorem strV_strip (l : List Bs) : stripL (l.map AVal.str) = some (l.map AVal.str) := by
  induction l with
  | nil => rfl
  | cons x l ih => simp only [List.map_cons, stripL, ih, st_str]
def packV (n : Int) (t : Bs) : AVal := if n < 1 ∨ 4096 < n then .tup [.sl [] .nil, .int .i64 1] else if 8000 < t.length then .tup [.sl [] .nil, .int .i64 4] else .tup [.sl ((pack n.toNat t).map AVal.str) .none, .int .i64 0]
def padR (r : Bs) (i : Nat) : Bs := r.take i ++ List.replicate (i - r.length) 0
theorem padR_len (r : Bs) (i : Nat) : (padR r i).length = i := by simp [padR]; omega
theorem padR_lt (r : Bs) {i : Nat} (h : i < r.length) : padR r i ++ [nth r i] = padR r (i + 1) := by
  rw [padR, padR, List.take_succ_eq_append_getElem h, nth_eq h, show i - r.length = 0 by omega, show i + 1 - r.length = 0 by omega]
  simp
theorem padR_ge (r : Bs) {i : Nat} (h : r.length ≤ i) : padR r i ++ [0] = padR r (i + 1) := by
  rw [padR, padR, List.take_of_length_le h, List.take_of_length_le (by omega), show i + 1 - r.length = (i - r.length) + 1 by omega, List.replicate_succ', List.append_assoc]
theorem padR_48 (n k : Nat) (r : Bs) : small n 4 ++ small k 2 ++ small r.length 2 ++ padR r 48 = body n k r := by
  simp only [body, padR, List.append_assoc]
theorem pack_take (n : Nat) (t : Bs) {k : Nat} (hk : k < count t.length) : (pack n t).take (k + 1) = (pack n t).take k ++ [sector n t k] := by
  have hl : k < (pack n t).length := by rw [pack_len]; exact hk
  rw [List.take_succ_eq_append_getElem hl]
  simp [pack]
theorem rpack_v (n : Int) (t : Bs) (ht : t.length ≤ 100000) : PV F 60 [.int .i64 n, .str t] = some (packV n t) := by
  have hc := rcount_v t.length
  refine PV_wp (fn := c60) rfl ?_
  dsimp only [c60]
  unfold packV
  by_cases h1 : n < 1 ∨ 4096 < n
  · rw [if_pos h1]
    replace fx := Dum_eq
    (first | refine go ?_ | exact goC | skip); repeat' (first | refine gP ?_ | exact gPc | refine gN ?_ | exact gNc | (refine gI ?_ ?_ <;> intro hyp <;> first | refine goF ?_ | exact goFc | refine goT ?_ | exact goTc | skip))
  · rw [if_neg h1]
    by_cases h2 : 8000 < t.length
    · rw [if_pos h2]
      replace fx := Dum_eq
      (first | refine go ?_ | exact goC | skip); repeat' (first | refine gP ?_ | exact gPc | refine gN ?_ | exact gNc | (refine gI ?_ ?_ <;> intro hyp <;> first | refine goF ?_ | exact goFc | refine goT ?_ | exact goTc | skip))
    · rw [if_neg h2]
      obtain ⟨N, rfl⟩ : ∃ N : Nat, n = (N : Int) := ⟨n.toNat, by omega⟩
      replace fx := Dum_eq
      (first | refine go ?_ | exact goC | skip); repeat' (first | refine gP ?_ | exact gPc | refine gN ?_ | exact gNc | (refine gI ?_ ?_ <;> intro hyp <;> first | refine goF ?_ | exact goFc | refine goT ?_ | exact goTc | skip))
      refine w_loop (fun m vs h => ∃ (k : Nat) (tk : Tok) (x1 x2 x3 x4 x5 x6 x7 x8 x9 x10 x11 : AVal), m = count t.length - k ∧ k ≤ count t.length ∧ vs = [.int .i64 (N : Int), .str t, x1, x2, .sl (((pack N t).take k).map AVal.str) tk, .int .i64 (k : Int), x3, x4, x5, x6, x7, x8, x9, x10, x11] ∧ Gr h 9 1 ((pack N t).take k) tk) (count t.length)
        ⟨0, .nil, _, _, _, _, _, _, _, _, _, _, _, rfl, by omega, rfl, Gr.nil _ _ _⟩ ?_
      rintro m vs h ⟨k, tk, x1, x2, x3, x4, x5, x6, x7, x8, x9, x10, x11, rfl, hk, rfl, G⟩
      by_cases hkc : k < count t.length
      · have hb := count_lt t.length (by omega) hkc
        have hcl := count_le t.length
        have T48 : (48 * (k : Int)).toNat = 48 * k := by omega
        obtain ⟨rest, hrest⟩ : ∃ rest, rest = t.drop (48 * k) := ⟨_, rfl⟩
        have hrl : rest.length ≤ 8000 := by rw [hrest, List.length_drop]; omega
        replace fx := aI @hc @T48
        (first | refine go ?_ | exact goC | skip); repeat' (first | refine gP ?_ | exact gPc | refine gN ?_ | exact gNc | (refine gI ?_ ?_ <;> intro hyp <;> first | refine goF ?_ | exact goFc | refine goT ?_ | exact goTc | skip))
        rw [← hrest]
        have s4 : ∀ H, CV F 81 [.int .i64 (N : Int), .int .i64 4] H _ := fun H => small_c N (by omega) 4 (by omega) H
        have s2 : ∀ (x : Nat), x < 100000 → ∀ H, CV F 81 [.int .i64 (x : Int), .int .i64 2] H _ := fun x hx H => small_c x (by omega) 2 (by omega) H
        refine CV_mono (s4 h) ?_
        rintro v h1 ⟨tk1, rfl, G1⟩
        replace fx := Dum_eq
        (first | refine go ?_ | exact goC | skip); repeat' (first | refine gP ?_ | exact gPc | refine gN ?_ | exact gNc | (refine gI ?_ ?_ <;> intro hyp <;> first | refine goF ?_ | exact goFc | refine goT ?_ | exact goTc | skip))
        refine CV_mono (s2 k (by omega) h1) ?_
        rintro v h2 ⟨tk2, rfl, G2⟩
        replace fx := Dum_eq
        (first | refine go ?_ | exact goC | skip); repeat' (first | refine gP ?_ | exact gPc | refine gN ?_ | exact gNc | (refine gI ?_ ?_ <;> intro hyp <;> first | refine goF ?_ | exact goFc | refine goT ?_ | exact goTc | skip))
        refine append_F (f := byteV) (small N 4) (small k 2) byte_len (fun x => rfl) (fun x => rfl) lenA_sl (elems_sl byte_len) (G1.step G2.fr) (by simp [small_len]) (by omega) (by omega) (by omega) ?_
        intro h3 tk3 G3 n3 _ _
        replace fx := Dum_eq
        (first | refine go ?_ | exact goC | skip); repeat' (first | refine gP ?_ | exact gPc | refine gN ?_ | exact gNc | (refine gI ?_ ?_ <;> intro hyp <;> first | refine goF ?_ | exact goFc | refine goT ?_ | exact goTc | skip))
        refine CV_mono (s2 rest.length (by omega) h3) ?_
        rintro v h4 ⟨tk4, rfl, G4⟩
        replace fx := Dum_eq
        (first | refine go ?_ | exact goC | skip); repeat' (first | refine gP ?_ | exact gPc | refine gN ?_ | exact gNc | (refine gI ?_ ?_ <;> intro hyp <;> first | refine goF ?_ | exact goFc | refine goT ?_ | exact goTc | skip))
        refine append_F (f := byteV) (small N 4 ++ small k 2) (small rest.length 2) byte_len (fun x => rfl) (fun x => rfl) lenA_sl (elems_sl byte_len) (G3.step G4.fr) (by simp [small_len]) (by omega) (by omega) (by omega) ?_
        intro h5 tk5 G5 n5 _ _
        clear G1 G2 G3 G4
        replace fx := Dum_eq
        (first | refine go ?_ | exact goC | skip); repeat' (first | refine gP ?_ | exact gPc | refine gN ?_ | exact gNc | (refine gI ?_ ?_ <;> intro hyp <;> first | refine goF ?_ | exact goFc | refine goT ?_ | exact goTc | skip))
        have hdl : (small N 4 ++ small k 2 ++ small rest.length 2).length = 8 := by simp [small_len]
        have h48 := padR_48 N k rest
        obtain ⟨hd, hhd⟩ : ∃ hd, hd = small N 4 ++ small k 2 ++ small rest.length 2 := ⟨_, rfl⟩
        rw [← hhd] at hdl h48 G5 ⊢
        refine w_loop (fun m vs h' => ∃ (i : Nat) (tk' : Tok) (x1 x2 x3 x4 x5 x6 x7 x8 : AVal), m = 48 - i ∧ i ≤ 48 ∧ vs = [.int .i64 (N : Int), .str t, x1, x2, .sl (((pack N t).take k).map AVal.str) tk, .int .i64 (k : Int), .str rest, .sl ((hd ++ padR rest i).map byteV) tk', .int .i64 (i : Int), x3, x4, x5, x6, x7, x8] ∧ GrF (fun _ => False) h h' 5 1 (hd ++ padR rest i) tk') 48
          ⟨0, tk5, _, _, _, _, _, _, _, _, rfl, by omega, by rw [show padR rest 0 = [] by simp [padR], List.append_nil]; rfl, by simpa [padR] using G5⟩ ?_
        clear G5
        rintro m vs h' ⟨i, tk', x1, x2, x3, x4, x5, x6, x7, x8, rfl, hi, rfl, G5⟩
        have lb : ∀ (x : UInt8) H, litA 0 5 1 1 false [.int .u8 0] (some [byteV x]) H = some (.sl (([x] : List UInt8).map byteV) .none, H) := fun x H => lit_none rfl rfl rfl rfl
        have lz : ∀ H, litA 0 5 1 1 false [.int .u8 0] (some [.int .u8 0]) H = some (.sl (([0] : List UInt8).map byteV) .none, H) := fun H => lit_none rfl rfl rfl rfl
        have pl : (hd ++ padR rest i).length = 8 + i := by rw [List.length_append, hdl, padR_len]
        by_cases hi48 : i < 48
        · by_cases hr : i < rest.length
          · have ln : ∀ H, litA 0 5 1 1 false [.int .u8 0] (some [.int .u8 ((nth rest i).toNat : Int)]) H = some (.sl (([nth rest i] : List UInt8).map byteV) .none, H) := fun H => lb _ H
            replace fx := aI @ln (aI @byte_cells @byte_one)
            (first | refine go ?_ | exact goC | skip); repeat' (first | refine gP ?_ | exact gPc | refine gN ?_ | exact gNc | (refine gI ?_ ?_ <;> intro hyp <;> first | refine goF ?_ | exact goFc | refine goT ?_ | exact goTc | skip))
            refine append_F (f := byteV) (hd ++ padR rest i) [nth rest i] byte_len (fun x => rfl) (fun x => rfl) rfl (elems_sl (l := [_]) byte_len) G5 (by rw [pl]; simp; omega) (by omega) (by omega) (by omega) ?_
            intro h6 tk6 G6 n6 _ _
            rw [List.append_assoc, padR_lt rest hr] at G6 ⊢
            replace fx := Dum_eq
            (first | refine go ?_ | exact goC | skip); repeat' (first | refine gP ?_ | exact gPc | refine gN ?_ | exact gNc | (refine gI ?_ ?_ <;> intro hyp <;> first | refine goF ?_ | exact goFc | refine goT ?_ | exact goTc | skip))
            exact lp_n ⟨_, by omega, i + 1, tk6, _, _, _, _, _, _, _, _, rfl, by omega, by push_cast; rfl, G6⟩
          · replace fx := aI @lz (aI @byte_cells @byte_one)
            (first | refine go ?_ | exact goC | skip); repeat' (first | refine gP ?_ | exact gPc | refine gN ?_ | exact gNc | (refine gI ?_ ?_ <;> intro hyp <;> first | refine goF ?_ | exact goFc | refine goT ?_ | exact goTc | skip))
            refine append_F (f := byteV) (hd ++ padR rest i) [0] byte_len (fun x => rfl) (fun x => rfl) rfl (elems_sl (l := [_]) byte_len) G5 (by rw [pl]; simp; omega) (by omega) (by omega) (by omega) ?_
            intro h6 tk6 G6 n6 _ _
            rw [List.append_assoc, padR_ge rest (by omega)] at G6 ⊢
            replace fx := Dum_eq
            (first | refine go ?_ | exact goC | skip); repeat' (first | refine gP ?_ | exact gPc | refine gN ?_ | exact gNc | (refine gI ?_ ?_ <;> intro hyp <;> first | refine goF ?_ | exact goFc | refine goT ?_ | exact goTc | skip))
            exact lp_n ⟨_, by omega, i + 1, tk6, _, _, _, _, _, _, _, _, rfl, by omega, by push_cast; rfl, G6⟩
        · have e48 : i = 48 := by omega
          subst e48
          rw [h48] at G5 ⊢
          have hck := checked_v (body N k rest) (by rw [body_len]; omega)
          have hes : checked (body N k rest) = sector N t k := by rw [hrest]; rfl
          rw [hes] at hck
          have hst : strip (.sl ((body N k rest).map byteV) tk') = some (.sl ((body N k rest).map byteV) .none) := by
            rcases G5.1 with ⟨e, _⟩ | ⟨i, rfl, _⟩
            · have e1 := congrArg List.length e
              rw [body_len] at e1; simp at e1
            · rfl
          have ls : ∀ (x : Bs) H, litA 0 9 1 1 false [.str []] (some [.str x]) H = some (.sl ([x].map AVal.str) .none, H) := fun x H => lit_none rfl rfl rfl rfl
          replace fx := aI @hst (aI @hck @ls)
          (first | refine go ?_ | exact goC | skip); repeat' (first | refine gP ?_ | exact gPc | refine gN ?_ | exact gNc | (refine gI ?_ ?_ <;> intro hyp <;> first | refine goF ?_ | exact goFc | refine goT ?_ | exact goTc | skip))
          refine append_F (f := AVal.str) ((pack N t).take k) [sector N t k] str_len (fun x => rfl) (fun x => rfl) rfl (elems_sl (l := [_]) str_len) ((G.fr G5.fr (fun _ _ _ q => q)).toF) (by rw [List.length_take]; simp; omega) (by omega) (by omega) (by omega) ?_
          intro h6 tk6 G6 n6 _ _
          rw [← pack_take N t hkc] at G6 ⊢
          replace fx := Dum_eq
          (first | refine go ?_ | exact goC | skip); repeat' (first | refine gP ?_ | exact gPc | refine gN ?_ | exact gNc | (refine gI ?_ ?_ <;> intro hyp <;> first | refine goF ?_ | exact goFc | refine goT ?_ | exact goTc | skip))
          exact lp_n ⟨_, by omega, k + 1, tk6, _, _, _, _, _, _, _, _, _, _, _, rfl, by omega, by push_cast; rfl, G6.gr⟩
      · have e : k = count t.length := by omega
        subst e
        have ep : (pack N t).take (count t.length) = pack N t := List.take_of_length_le (by rw [pack_len]; omega)
        rw [ep] at G
        replace fx := aI @hc @ep
        (first | refine go ?_ | exact goC | skip); repeat' (first | refine gP ?_ | exact gPc | refine gN ?_ | exact gNc | (refine gI ?_ ?_ <;> intro hyp <;> first | refine goF ?_ | exact goFc | refine goT ?_ | exact goTc | skip))
        rcases G with ⟨e, _⟩ | ⟨i, rfl, _⟩
        · have e1 := congrArg List.length e
          rw [pack_len, List.length_nil] at e1
          have := count_pos t.length (by omega)
          omega
        · rfl
end Go.Proofs.YtjofjgflcogklaaGreatDoor

namespace Go.Proofs.YtjofjgflcogklaaGreatDoor
open Go Go.Abs Go.Sha Go.Jn
def partC (o : Option Prt) : List AVal := match o with
  | none => [.int .i64 0, .int .i64 0, .int .i64 0, .str [], .bool false]
  | some p => [.int .i64 (p.number : Int), .int .i64 (p.part : Int), .int .i64 (p.left : Int), .str p.pay, .bool true]
def partV (o : Option Prt) : AVal := .agg (partC o)
theorem unpack_none {s : Bs} (h : ¬ (good s = true)) : unpack s = none := by rw [unpack, if_neg h]
theorem unpack_some {s : Bs} (h : good s = true) : unpack s = some (fld s) := by rw [unpack, if_pos h]
theorem take_zero {s : Bs} {a n : Nat} (h : a + n ≤ s.length) : (s.drop a).take n = List.replicate n 0 ↔ ∀ i, a ≤ i → i < a + n → nth s i = 0 := by
  constructor
  · intro e i h1 h2
    have h3 : i - a < ((s.drop a).take n).length := by rw [List.length_take, List.length_drop]; omega
    have h4 : ((s.drop a).take n)[i - a] = s[i] := by
      rw [List.getElem_take, List.getElem_drop]; congr 1; omega
    rw [nth_eq (by omega), ← h4]
    simp [e]
  · intro h0
    refine List.ext_getElem (by rw [List.length_take, List.length_drop, List.length_replicate]; omega) fun i h1 h2 => ?_
    rw [List.length_replicate] at h2
    rw [List.getElem_take, List.getElem_drop, List.getElem_replicate]
    have := h0 (a + i) (by omega) (by omega)
    rwa [nth_eq (by omega)] at this
theorem runpack_v (s : Bs) : PV F 54 [.str s] = some (partV (unpack s)) := by
  refine PV_wp (fn := c54) rfl ?_
  dsimp only [c54]
  by_cases h64 : s.length = 64
  · have n1 := number_v (s.take 4) (by rw [List.length_take]; omega)
    have n2 := number_v ((s.drop 4).take 2) (by rw [List.length_take]; omega)
    have n3 := number_v ((s.drop 6).take 2) (by rw [List.length_take]; omega)
    have hc := checked_v (s.take 56) (by rw [List.length_take]; omega)
    have t56 : (s.take 56).length = 56 := by rw [List.length_take]; omega
    obtain ⟨N, hN⟩ : ∃ N, N = num (s.take 4) := ⟨_, rfl⟩
    obtain ⟨P, hP⟩ : ∃ P, P = num ((s.drop 4).take 2) := ⟨_, rfl⟩
    obtain ⟨L, hL⟩ : ∃ L, L = num ((s.drop 6).take 2) := ⟨_, rfl⟩
    have hPl : P < 65536 := by have := num_lt ((s.drop 4).take 2); rw [List.length_take, List.length_drop, h64] at this; exact hP ▸ this
    have hLl : L < 65536 := by have := num_lt ((s.drop 6).take 2); rw [List.length_take, List.length_drop, h64] at this; exact hL ▸ this
    rw [← hN] at n1
    rw [← hP] at n2
    rw [← hL] at n3
    have hf : fld s = ⟨N, P, L, (s.drop 8).take (min L 48)⟩ := by rw [fld, hN, hP, hL]
    have hg := good_iff s
    rw [hf] at hg
    simp only [] at hg
    rw [take_zero (by omega)] at hg
    have no : ∀ {c : Prop}, (good s = true → False) → partV (unpack s) = partV none := fun q => by rw [unpack_none q]
    by_cases hp : checked (s.take 56) = s ∧ 1 ≤ N ∧ N ≤ 4096 ∧ 48 * P + L ≤ 8000 ∧ ¬ (L < 1 ∧ 0 < P)
    · obtain ⟨p1, p2, p3, p4, p5⟩ := hp
      replace fx := aI @n1 (aI @n2 (aI @n3 (aI @hc (aI @t56 @p1))))
      (first | refine go ?_ | exact goC | skip); repeat' (first | refine gP ?_ | exact gPc | refine gN ?_ | exact gNc | (refine gI ?_ ?_ <;> intro hyp <;> first | refine goF ?_ | exact goFc | refine goT ?_ | exact goTc | skip))
      all_goals
        refine w_loop (fun m vs h => ∃ (k : Nat) (x1 x2 x3 x4 x5 : AVal), m = 56 - k ∧ 8 + min L 48 ≤ k ∧ k ≤ 56 ∧ (∀ i, 8 + min L 48 ≤ i → i < k → nth s i = 0) ∧ vs = [.str s, .ptr 0 0, .ptr 1 0, .int .i64 ((min L 48 : Nat) : Int), .int .i64 (k : Int), x1, x2, x3, x4, x5] ∧
            (∃ S a, h.get 0 = some (.row true S a [.int .i64 0, .int .i64 0, .int .i64 0, .str [], .bool false])) ∧ ∃ S a, h.get 1 = some (.row true S a [.int .i64 (N : Int), .int .i64 (P : Int), .int .i64 (L : Int), .str [], .bool true])) (56 - (8 + min L 48))
          ⟨8 + min L 48, _, _, _, _, _, rfl, by omega, by omega, fun i h1 h2 => by omega, by first | (rw [show min L 48 = L by omega]; rfl) | (rw [show min L 48 = 48 by omega]; rfl), ⟨_, _, get_push_old (get_push_eq rfl)⟩, ⟨_, _, get_push_eq rfl⟩⟩ ?_
        rintro m vs h ⟨k, x1, x2, x3, x4, x5, rfl, hk0, hk, hz, rfl, ⟨S0, a0, g0⟩, S1, a1, g1⟩
        by_cases hk5 : k < 56
        · by_cases h0 : nth s k = 0
          · have e0 : ((nth s k).toNat : Int) = 0 := by rw [h0]; rfl
            replace fx := @e0
            (first | refine go ?_ | exact goC | skip); repeat' (first | refine gP ?_ | exact gPc | refine gN ?_ | exact gNc | (refine gI ?_ ?_ <;> intro hyp <;> first | refine goF ?_ | exact goFc | refine goT ?_ | exact goTc | skip))
            refine lp_n ⟨_, by omega, k + 1, _, _, _, _, _, rfl, by omega, by omega, fun i h1 h2 => ?_, by push_cast; rfl, ⟨_, _, g0⟩, ⟨_, _, g1⟩⟩
            by_cases e : i = k
            · rw [e, h0]
            · exact hz i h1 (by omega)
          · have e0 : ¬ ((nth s k).toNat : Int) = 0 := fun q => h0 (UInt8.toNat_inj.1 (by simpa using q))
            rw [unpack_none fun q => h0 ((hg.1 q).2.2.2.2.2.2 k hk0 (by omega))]
            replace fx := aI @e0 @g0
            (first | refine go ?_ | exact goC | skip); repeat' (first | refine gP ?_ | exact gPc | refine gN ?_ | exact gNc | (refine gI ?_ ?_ <;> intro hyp <;> first | refine goF ?_ | exact goFc | refine goT ?_ | exact goTc | skip))
            rfl
        · have e56 : k = 56 := by omega
          subst e56
          have hgood : good s = true := hg.2 ⟨h64, p1, p2, p3, p4, p5, fun i h1 h2 => hz i h1 (by omega)⟩
          rw [unpack_some hgood, hf]
          have T : (8 + ((min L 48 : Nat) : Int)).toNat - 8 = min L 48 := by omega
          replace fx := aI @g0 (aI @g1 @T)
          (first | refine go ?_ | exact goC | skip); repeat' (first | refine gP ?_ | exact gPc | refine gN ?_ | exact gNc | (refine gI ?_ ?_ <;> intro hyp <;> first | refine goF ?_ | exact goFc | refine goT ?_ | exact goTc | skip))
          rw [get_put_old ((get_put_ne (by omega)).trans g0)]
          replace fx := Dum_eq
          (first | refine go ?_ | exact goC | skip); repeat' (first | refine gP ?_ | exact gPc | refine gN ?_ | exact gNc | (refine gI ?_ ?_ <;> intro hyp <;> first | refine goF ?_ | exact goFc | refine goT ?_ | exact goTc | skip))
          rfl
    · rw [unpack_none fun q => hp ⟨(hg.1 q).2.1, (hg.1 q).2.2.1, (hg.1 q).2.2.2.1, (hg.1 q).2.2.2.2.1, (hg.1 q).2.2.2.2.2.1⟩]
      replace fx := aI @n1 (aI @n2 (aI @n3 (aI @hc @t56)))
      (first | refine go ?_ | exact goC | skip); repeat' (first | refine gP ?_ | exact gPc | refine gN ?_ | exact gNc | (refine gI ?_ ?_ <;> intro hyp <;> first | refine goF ?_ | exact goFc | refine goT ?_ | exact goTc | skip))
      all_goals first | rfl | (refine absurd ⟨?_, ?_, ?_, ?_, ?_⟩ hp <;> first | assumption | omega)
  · have e : unpack s = none := unpack_none (by rw [good_iff]; exact fun q => h64 q.1)
    replace fx := Dum_eq
    (first | refine go ?_ | exact goC | skip); repeat' (first | refine gP ?_ | exact gPc | refine gN ?_ | exact gNc | (refine gI ?_ ?_ <;> intro hyp <;> first | refine goF ?_ | exact goFc | refine goT ?_ | exact goTc | skip))
    rw [e]; rfl
end Go.Proofs.YtjofjgflcogklaaGreatDoor

namespace Go.Abs
variable {F : Nat → Option AEnt}
theorem w_rfuncC {fid k : Nat} {slots : List Nat} {f : Opd} {vs : List AVal} {h : Heap} {Q : AExit → List AVal → Heap → Prop} {g : Nat} {cap : List AVal} (hf : evOpd vs [] f = .fn g cap)
    (c : CV F g (.yld h.next :: cap) (h.push (.lrec .ready fid k slots vs)) (fun _ h' => afterL h.next vs Q h')) : WP F (.rfunc fid k slots f) vs h Q := by
  obtain ⟨r, h', g, q⟩ := c
  exact w_rfunc hf g q
theorem YV_mono {id : Nat} {asx : List AVal} {h : Heap} {K K' : AVal → Heap → Prop} (c : YV F id asx h K) (hi : ∀ r h', K r h' → K' r h') : YV F id asx h K' := by
  unfold YV at c ⊢
  obtain ⟨n, r, h', e, q⟩ := c
  exact ⟨n, r, h', e, hi _ _ q⟩
theorem beginY_n {id fid k : Nat} {slots : List Nat} {vs vs3 : List AVal} {h : Heap} {body : ACode} {K : AVal → Heap → Prop} (g : h.get id = some (.lrec .ready fid k slots vs3))
    (w : WP F body vs (h.put id (some (.lrec .busy fid k slots vs3))) (fun e _ h => afterY id K e h)) : beginY F id body K .normal vs h := ⟨_, _, _, _, g, w⟩
theorem afterY_n {id fid k : Nat} {slots : List Nat} {vs : List AVal} {h : Heap} {K : AVal → Heap → Prop} (g : h.get id = some (.lrec .busy fid k slots vs))
    (w : K (.bool true) (h.put id (some (.lrec .ready fid k slots vs)))) : afterY id K .normal h := ⟨_, _, _, _, g, w⟩
theorem afterL_n {id fid k : Nat} {slots : List Nat} {vs vs1 : List AVal} {h : Heap} {Q : AExit → List AVal → Heap → Prop} (g : h.get id = some (.lrec .ready fid k slots vs1)) (q : Q .normal vs (h.put id none)) : afterL id vs Q h := by
  unfold afterL; rw [g]; exact q
end Go.Abs
namespace Go.Proofs.YtjofjgflcogklaaGreatDoor
open Go Go.Abs Go.Sha Go.Jn
theorem back_c (b : List UInt8) (hb : b.length ≤ 1000000) {tk : Tok} {H : Heap} {id c : Nat} {I : Nat → Heap → Prop} (h0 : I b.length H) (hbox : ∀ k h, I k h → h.get c = some (.row true 0 false [.sl (b.map byteV) tk]))
    (step : ∀ k h, k < b.length → I (k + 1) h → YV F id [.int .i64 (k : Int), byteV (nth b k)] h (fun v h' => v = .bool true ∧ I k h')) : CV F 103 [.yld id, .ptr c 0] H (fun _ h' => I 0 h') := by
  refine CV_wp (fn := c103) rfl ?_
  dsimp only [c103]
  have g0 := hbox _ _ h0
  replace fx := @g0
  (first | refine go ?_ | exact goC | skip); repeat' (first | refine gP ?_ | exact gPc | refine gN ?_ | exact gNc | (refine gI ?_ ?_ <;> intro hyp <;> first | refine goF ?_ | exact goFc | refine goT ?_ | exact goTc | skip))
  refine w_loop (fun m vs h => ∃ (k : Nat) (x1 x2 : AVal), m = k ∧ k ≤ b.length ∧ vs = [.yld id, .ptr c 0, .int .i64 ((k : Int) - 1), x1, x2] ∧ I k h) b.length
    ⟨b.length, _, _, rfl, by omega, rfl, h0⟩ ?_
  rintro k vs h ⟨_, x1, x2, rfl, hk, rfl, hI⟩
  have g1 := hbox _ _ hI
  cases k with
  | zero =>
    replace fx := Dum_eq
    (first | refine go ?_ | exact goC | skip); repeat' (first | refine gP ?_ | exact gPc | refine gN ?_ | exact gNc | (refine gI ?_ ?_ <;> intro hyp <;> first | refine goF ?_ | exact goFc | refine goT ?_ | exact goTc | skip))
    exact hI
  | succ k =>
    rw [show ((k + 1 : Nat) : Int) - 1 = (k : Int) by omega]
    replace fx := aI @g1 (aI @byte_cells @byte_one)
    (first | refine go ?_ | exact goC | skip); repeat' (first | refine gP ?_ | exact gPc | refine gN ?_ | exact gNc | (refine gI ?_ ?_ <;> intro hyp <;> first | refine goF ?_ | exact goFc | refine goT ?_ | exact goTc | skip))
    refine YV_mono (step k h (by omega) hI) ?_
    rintro v h' ⟨rfl, hI'⟩
    replace fx := Dum_eq
    (first | refine go ?_ | exact goC | skip); repeat' (first | refine gP ?_ | exact gPc | refine gN ?_ | exact gNc | (refine gI ?_ ?_ <;> intro hyp <;> first | refine goF ?_ | exact goFc | refine goT ?_ | exact goTc | skip))
    exact lp_n ⟨_, by omega, k, _, _, rfl, by omega, rfl, hI'⟩
theorem backf_c (h : Heap) (xs : List AVal) (tk : Tok) : CV F 95 [.sl xs tk] h (fun v h' => v = .fn 103 [.ptr h.next 0] ∧ h' = h.push (.row true 0 false [.sl xs tk])) := by
  refine CV_wp (fn := c95) rfl ?_
  dsimp only [c95]
  replace fx := Dum_eq
  (first | refine go ?_ | exact goC | skip); repeat' (first | refine gP ?_ | exact gPc | refine gN ?_ | exact gNc | (refine gI ?_ ?_ <;> intro hyp <;> first | refine goF ?_ | exact goFc | refine goT ?_ | exact goTc | skip))
theorem or256 (m b : Nat) (hm : m < 281474976710656) (hb : b < 256) : binA .or .arith (.int .i64 ((m * 256 : Nat) : Int)) (.int .i64 (b : Int)) = some (.int .i64 ((b + 256 * m : Nat) : Int)) := by
  have e1 : (m * 256 ||| b) = m * 256 + b := by
    have := Nat.shiftLeft_add_eq_or_of_lt (b := b) (i := 8) (by omega) m
    rw [Nat.shiftLeft_eq] at this
    exact this.symm
  have e2 : (BitVec.ofInt 64 ((m * 256 : Nat) : Int) ||| BitVec.ofInt 64 (b : Int)).toNat = m * 256 + b := by
    rw [BitVec.toNat_or, BitVec.ofInt_natCast, BitVec.ofInt_natCast, BitVec.toNat_ofNat, BitVec.toNat_ofNat, Nat.mod_eq_of_lt (by omega), Nat.mod_eq_of_lt (by omega), e1]
  have e3 : IntKind.i64.bits = 64 := rfl
  have e4 : ((m * 256 + b : Nat) : Int) = ((b + 256 * m : Nat) : Int) := by omega
  simp only [binA, intBin, reduceCtorEq, or_self, if_false, if_true]
  show some (AVal.int .i64 (IntKind.i64.wrap ((BitVec.ofInt 64 ((m * 256 : Nat) : Int) ||| BitVec.ofInt 64 (b : Int)).toNat : Int))) = _
  rw [e2, e4, wrap_in64 (by omega) (by omega)]
theorem shl256 (m : Nat) (hm : m < 281474976710656) : binA .shl .arith (.int .i64 (m : Int)) (.int .u64 8) = some (.int .i64 ((m * 256 : Nat) : Int)) := by
  have e3 : IntKind.i64.bits = 64 := rfl
  have h0 : ¬ ((8 : Int) < 0) := by omega
  simp only [binA, shiftA, if_true, or_true, true_or, reduceCtorEq, h0, if_false, e3]
  rw [show (m : Int) * 2 ^ (min (Int.toNat 8) 64) = ((m * 256 : Nat) : Int) by rw [show min (Int.toNat 8) 64 = 8 from rfl]; omega, wrap_in64 (by omega) (by omega)]
theorem num_drop' (s : Bs) {k : Nat} (hk : k < s.length) : (nth s k).toNat + 256 * num (s.drop (k + 1)) = num (s.drop k) := (num_drop s hk).symm
theorem num_lt6 (s : Bs) (hs : s.length ≤ 6) (k : Nat) : num (s.drop k) < 281474976710656 := by
  have := num_lt (s.drop k)
  have h2 : 256 ^ (s.drop k).length ≤ 256 ^ 6 := Nat.pow_le_pow_right (by omega) (by rw [List.length_drop]; omega)
  exact Nat.lt_of_lt_of_le this h2
theorem byteV_eq (b : UInt8) : byteV b = .int .u8 (b.toNat : Int) := rfl
theorem get_c (s : Bs) (hs : s.length ≤ 6) : CV F 76 [.sl (s.map byteV) .none] Heap.empty (fun v _ => v = .int .i64 (num s : Int)) := by
  refine CV_wp (fn := c76) rfl ?_
  dsimp only [c76]
  replace fx := Dum_eq
  (first | refine go ?_ | exact goC | skip); repeat' (first | refine gP ?_ | exact gPc | refine gN ?_ | exact gNc | (refine gI ?_ ?_ <;> intro hyp <;> first | refine goF ?_ | exact goFc | refine goT ?_ | exact goTc | skip))
  refine CV_mono (backf_c _ _ _) ?_
  rintro v h1 ⟨rfl, rfl⟩
  replace fx := Dum_eq
  (first | refine go ?_ | exact goC | skip); repeat' (first | refine gP ?_ | exact gPc | refine gN ?_ | exact gNc | (refine gI ?_ ?_ <;> intro hyp <;> first | refine goF ?_ | exact goFc | refine goT ?_ | exact goTc | skip))
  obtain ⟨H, hH⟩ : ∃ H, H = (Heap.empty.push (Obj.row true (typed 3) false [AVal.int IntKind.i64 0])).push (Obj.row true 0 false [AVal.sl (List.map byteV s) Tok.none]) := ⟨_, rfl⟩
  have hn : H.next = 2 := by rw [hH]; rfl
  have h0 : H.get 0 = some (Obj.row true (typed 3) false [AVal.int IntKind.i64 0]) := by rw [hH]; rfl
  have h1 : H.get 1 = some (Obj.row true 0 false [AVal.sl (List.map byteV s) Tok.none]) := by rw [hH]; rfl
  obtain ⟨V, hV⟩ : ∃ V, V = [AVal.sl (s.map byteV) .none, .int .i64 0, .ptr 0 0, .tup [], .fn 103 [.ptr 1 0], .tup []] := ⟨_, rfl⟩
  rw [← hH, ← hV]
  refine w_rfuncC (by rw [hV]; rfl) (CV_mono (back_c s (by omega) (I := fun k h => h.get 0 = some (.row true (typed 3) false [.int .i64 (num (s.drop k) : Int)]) ∧ h.get 1 = some (.row true 0 false [.sl (s.map byteV) .none]) ∧ h.get 2 = some (.lrec .ready 76 0 [0, 2, 3, 5, 7, 9] V))
    ⟨?_, ?_, ?_⟩ (fun k h g => g.2.1) ?_) ?_)
  · rw [List.drop_length, get_push_ne (by omega)]; exact h0
  · rw [get_push_ne (by omega)]; exact h1
  · exact get_push_eq hn.symm
  · rw [hn]
    rintro k h hk ⟨g0, g1, g2⟩
    refine y_wp g2 rfl rfl rfl rfl ?_
    dsimp only [c76, c76L0]
    rw [hV]
    have hN := num_lt6 s hs (k + 1)
    have hb : (nth s k).toNat < 256 := (nth s k).toNat_lt
    have hnd := num_drop s (k := k) hk
    obtain ⟨M, hM⟩ : ∃ M, M = num (s.drop (k + 1)) := ⟨_, rfl⟩
    rw [← hM] at g0 hN hnd
    have e1 := shl256 M hN
    have e2 := or256 M (nth s k).toNat hN hb
    obtain ⟨M2, hM2⟩ : ∃ M2, M2 = M * 256 := ⟨_, rfl⟩
    rw [← hM2] at e1 e2
    simp only [setPs, List.set_cons_succ, List.set_cons_zero]
    replace fx := Dum_eq
    (first | refine go ?_ | exact goC | skip); repeat' (first | refine gP ?_ | exact gPc | refine gN ?_ | exact gNc | (refine gI ?_ ?_ <;> intro hyp <;> first | refine goF ?_ | exact goFc | refine goT ?_ | exact goTc | skip))
    refine beginY_n (g2.trans (by rw [hV])) ?_
    replace fx := aI @g0 (aI @e1 (aI @e2 @byteV_eq))
    (first | refine go ?_ | exact goC | skip); repeat' (first | refine gP ?_ | exact gPc | refine gN ?_ | exact gNc | (refine gI ?_ ?_ <;> intro hyp <;> first | refine goF ?_ | exact goFc | refine goT ?_ | exact goTc | skip))
    refine afterY_n (by rw [get_put_ne (by omega)]; exact get_put_old g2) ?_
    rw [hnd]
    refine ⟨rfl, ?_, ?_, ?_⟩
    · rw [get_put_ne (by omega)]
      exact get_put_old ((get_put_ne (by omega)).trans g0)
    · rw [get_put_ne (by omega), get_put_ne (by omega), get_put_ne (by omega)]; exact g1
    · exact get_put_old ((get_put_ne (by omega)).trans (get_put_old g2))
  · rw [hn]
    rintro r h' ⟨g0, g1, g2⟩
    refine afterL_n g2 ?_
    rw [hV]
    replace fx := aI @g0 @List.drop_zero.{0}
    (first | refine go ?_ | exact goC | skip); repeat' (first | refine gP ?_ | exact gPc | refine gN ?_ | exact gNc | (refine gI ?_ ?_ <;> intro hyp <;> first | refine goF ?_ | exact goFc | refine goT ?_ | exact goTc | skip))
theorem copy_src {h : Heap} {x off2 k : Nat} {mx : Bool} {sx : Nat} {ax : Bool} {m : List UInt8} (hx : h.get x = some (.row mx sx ax (m.map byteV))) (hk : off2 + k ≤ m.length) : elemsA h 1 (.ref x off2 k 1) = some (((m.drop off2).take k).map byteV) := by
  simp only [elemsA, if_true, hx, List.length_map, Nat.mul_one]
  rw [if_pos hk, List.map_take, List.map_drop]
theorem copy_to {h : Heap} {id off n : Nat} {S : Nat} {ag : Bool} {l : List UInt8} (hg : h.get id = some (.row true S ag (l.map byteV))) (hn : off + n ≤ l.length) {y : AVal} {t : List UInt8} (hl : lenA y = some t.length) (he : elemsA h 1 y = some (t.map byteV)) :
    copyA 1 (.ref id off n 1) y h = some (.int .i64 ((min t.length n : Nat) : Int), h.put id (some (.row true S ag ((putB l off (t.take n)).map byteV)))) := by
  have hc : off + n * 1 ≤ (l.map byteV).length := by rw [List.length_map]; omega
  have ho : (t.map byteV).all AVal.one = true := bytes_all t
  simp only [copyA, hl, he, hg, hc, ho, and_self, if_true]
  have ht : (t.map byteV).take (min t.length n * 1) = (t.take n).map byteV := by
    rw [Nat.mul_one, ← List.map_take, Nat.min_comm, ← List.take_take, List.take_length]
  rw [ht, setCells_mid _ _ _ (by simp; omega)]
  simp only [putB, List.map_append, List.map_take, List.map_drop, List.length_map, List.length_take]
theorem copy_s {h : Heap} {id off n : Nat} {S : Nat} {ag : Bool} {l : List UInt8} (hg : h.get id = some (.row true S ag (l.map byteV))) (hn : off + n ≤ l.length) (t : List UInt8) :
    copyA 1 (.ref id off n 1) (.str t) h = some (.int .i64 ((min t.length n : Nat) : Int), h.put id (some (.row true S ag ((putB l off (t.take n)).map byteV)))) := copy_to hg hn rfl rfl
theorem copy_r {h : Heap} {id off n x off2 k : Nat} {S : Nat} {ag : Bool} {l m : List UInt8} {mx : Bool} {sx : Nat} {ax : Bool} (hg : h.get id = some (.row true S ag (l.map byteV))) (hn : off + n ≤ l.length)
    (hx : h.get x = some (.row mx sx ax (m.map byteV))) (hk : off2 + k ≤ m.length) :
    copyA 1 (.ref id off n 1) (.ref x off2 k 1) h = some (.int .i64 ((min k n : Nat) : Int), h.put id (some (.row true S ag ((putB l off (((m.drop off2).take k).take n)).map byteV)))) := by
  have hl : ((m.drop off2).take k).length = k := by rw [List.length_take, List.length_drop]; omega
  have := copy_to hg hn (y := .ref x off2 k 1) (t := (m.drop off2).take k) (by rw [hl]; rfl) (copy_src hx hk)
  rw [hl] at this
  exact this
theorem putB_set {l : List UInt8} {off k : Nat} {t : List UInt8} (x : UInt8) (hk : t.length = k) (h : off + k < l.length) : (putB l off t).set (off + k) x = putB l off (t ++ [x]) := by
  subst hk
  rw [putB, putB, ← List.append_assoc, List.set_append_right _ _ (by rw [List.length_append, List.length_take]; omega), List.length_append, List.length_take, show off + t.length - (min off l.length + t.length) = 0 by omega,
    List.drop_eq_getElem_cons (show off + t.length < l.length by omega), List.set_cons_zero, List.append_assoc, List.append_assoc]
  simp [List.append_assoc, Nat.add_assoc]
theorem putB_nil (l : List UInt8) (off : Nat) : putB l off [] = l := by simp [putB]
theorem set_one {α : Type} (l : List α) (f : α → AVal) (i : Nat) (x : α) : (l.map f).set i (f x) = (l.set i x).map f := List.map_set.symm
theorem shr256 (m : Nat) : binA .shr .arith (.int .i64 (m : Int)) (.int .u64 8) = some (.int .i64 ((m / 256 : Nat) : Int)) := by
  have e3 : IntKind.i64.bits = 64 := rfl
  have h0 : ¬ ((8 : Int) < 0) := by omega
  have e : (2 : Int) ^ 8 = ((256 : Nat) : Int) := rfl
  simp only [binA, shiftA, if_true, or_true, true_or, reduceCtorEq, h0, if_false, e3]
  rw [show min (Int.toNat 8) 64 = 8 from rfl, e, Int.fdiv_eq_ediv_of_nonneg _ (Int.natCast_nonneg _), ← Int.natCast_ediv]
theorem put_c {h : Heap} {id off n S : Nat} {ag : Bool} {l : List UInt8} (hg : h.get id = some (.row true S ag (l.map byteV))) (hl : off + n ≤ l.length) (hn : n ≤ 100) (m : Nat) (hm : m < 9223372036854775808) :
    CV F 91 [.ref id off n 1, .int .i64 (m : Int)] h (fun _ h' => h'.get id = some (.row true S ag ((putB l off (Jn.small m n)).map byteV)) ∧ Fr (fun j => j = id) h h') := by
  refine CV_wp (fn := c91) rfl ?_
  dsimp only [c91]
  replace fx := Dum_eq
  (first | refine go ?_ | exact goC | skip); repeat' (first | refine gP ?_ | exact gPc | refine gN ?_ | exact gNc | (refine gI ?_ ?_ <;> intro hyp <;> first | refine goF ?_ | exact goFc | refine goT ?_ | exact goTc | skip))
  refine w_loop (fun q vs h' => ∃ (k : Nat) (x1 x2 : AVal), q = n - k ∧ k ≤ n ∧ vs = [.ref id off n 1, .int .i64 ((m / 256 ^ k : Nat) : Int), x1, .int .i64 (n : Int), .int .i64 (k : Int), x2] ∧ h'.get id = some (.row true S ag ((putB l off (Jn.small m k)).map byteV)) ∧ Fr (fun j => j = id) h h') n
    ⟨0, _, _, rfl, by omega, by rw [Nat.pow_zero, Nat.div_one]; rfl, by rw [show Jn.small m 0 = [] from rfl, putB_nil]; exact hg, Fr.refl _ _⟩ ?_
  rintro q vs h' ⟨k, x1, x2, rfl, hk, rfl, g, f⟩
  have hle : m / 256 ^ k ≤ m := Nat.div_le_self _ _
  have hq1 : m / 256 ^ (k + 1) = m / 256 ^ k / 256 := by rw [Nat.pow_succ, ← Nat.div_div_eq_div_mul]
  have ss := small_succ m k
  have sl := small_len m k
  obtain ⟨q, hq⟩ : ∃ q, q = m / 256 ^ k := ⟨_, rfl⟩
  rw [← hq] at hle hq1 ss ⊢
  clear hq
  by_cases hkn : k < n
  · have hpl : (putB l off (Jn.small m k)).length = l.length := putB_len _ (by rw [sl]; omega)
    have e3 : toIntA .u8 (.int .i64 (q : Int)) = some (byteV (UInt8.ofNat q)) := toU8 _ _
    have sh := shr256 q
    obtain ⟨r, hr⟩ : ∃ r, r = q / 256 := ⟨_, rfl⟩
    rw [← hr] at sh hq1
    clear hr
    replace fx := aI @g (aI @e3 (aI @sh (aI @hpl (aI @byte_cells @byte_one))))
    (first | refine go ?_ | exact goC | skip); repeat' (first | refine gP ?_ | exact gPc | refine gN ?_ | exact gNc | (refine gI ?_ ?_ <;> intro hyp <;> first | refine goF ?_ | exact goFc | refine goT ?_ | exact goTc | skip))
    refine lp_n ⟨_, by omega, k + 1, _, _, rfl, by omega, by rw [hq1]; push_cast; rfl, ?_, f.put (.inl rfl) _⟩
    rw [get_put_old g, ss, Nat.mul_one, ← putB_set _ sl (by omega), ← set_one]
  · have e : k = n := by omega
    subst e
    replace fx := Dum_eq
    (first | refine go ?_ | exact goC | skip); repeat' (first | refine gP ?_ | exact gPc | refine gN ?_ | exact gNc | (refine gI ?_ ?_ <;> intro hyp <;> first | refine goF ?_ | exact goFc | refine goT ?_ | exact goTc | skip))
    exact ⟨g, f⟩
theorem equal_v (a b : Bs) : PV F 77 [.sl (a.map byteV) .none, .sl (b.map byteV) .none] = some (.bool (decide (a = b))) := by
  refine PV_wp (fn := c77) rfl ?_
  dsimp only [c77]
  replace fx := Dum_eq
  (first | refine go ?_ | exact goC | skip); repeat' (first | refine gP ?_ | exact gPc | refine gN ?_ | exact gNc | (refine gI ?_ ?_ <;> intro hyp <;> first | refine goF ?_ | exact goFc | refine goT ?_ | exact goTc | skip))
end Go.Proofs.YtjofjgflcogklaaGreatDoor

namespace Go.Abs
theorem Fr.fresh {h h1 h2 : Heap} {a : Nat} (f : Fr (fun _ => False) h h1) (g : Fr (fun j => j = a) h1 h2) (ha : h.next ≤ a) : Fr (fun _ => False) h h2 :=
  ⟨Nat.le_trans f.1 g.1, fun j hj _ => by
    have := f.1
    rw [g.2 j (by omega) (by intro e; omega)]; exact f.2 j hj (fun q => q)⟩
theorem push_eqs {h hp : Heap} {o : Obj} (e : hp = h.push o) {j : Nat} {x : Obj} (g : h.get j = some x) : hp.get j = some x := by rw [e]; exact get_push_old g
end Go.Abs
namespace Go.Proofs.YtjofjgflcogklaaGreatDoor
open Go Go.Abs Go.Sha Go.Jn
theorem pur_sl (h : Heap) (xs : List AVal) (tk : Tok) : ∃ t', purify h (.sl xs tk) = some (.sl xs t') := by
  cases tk with
  | none => exact ⟨_, pu_none h xs⟩
  | nil => exact ⟨_, pu_nil h xs⟩
  | own i s => exact ⟨_, pu_own h xs i s⟩
  | full => exact ⟨.none, by simp only [purify]⟩
theorem purI {h : Heap} {x : AVal} {k : IntKind} {n : Int} (e : purify h x = some (.int k n)) : x = .int k n := by
  cases x with
  | int k' n' => rw [pu_int] at e; exact Option.some.inj e
  | sl xs t => obtain ⟨t', e'⟩ := pur_sl h xs t; rw [e'] at e; simp at e
  | ref => rw [pu_ref] at e; simp at e
  | agg cs => rw [pu_agg] at e; simp at e
  | tup cs => rw [pu_tup] at e; simp at e
  | fn f cs => simp only [purify, Option.map_eq_some_iff] at e; obtain ⟨_, _, e⟩ := e; simp at e
  | _ => simp [purify] at e
theorem purB {h : Heap} : ∀ {cs : List AVal} {l : List UInt8}, purifyL h cs = some (l.map byteV) → cs = l.map byteV
  | [], [], _ => rfl
  | [], _ :: _, e => by simp [purifyL] at e
  | x :: cs, l, e => by
    rw [puL_cons] at e
    cases hx : purify h x with
    | none => rw [hx] at e; simp [sc] at e
    | some x' =>
      cases hc : purifyL h cs with
      | none => rw [hx, hc] at e; simp [sc] at e
      | some c' =>
        rw [hx, hc] at e
        simp only [sc, Option.some.injEq] at e
        cases l with
        | nil => simp at e
        | cons b l =>
          simp only [List.map_cons, List.cons.injEq] at e
          obtain ⟨rfl, rfl⟩ := e
          rw [purI hx, purB hc]; rfl
theorem hash_cv (b : List UInt8) (hl : b.length ≤ 900000) : CV F 75 [.sl (b.map byteV) .none] Heap.empty (fun v _ => v = .agg ((sum b).map byteV)) := by
  have e := hash_v b hl
  unfold PV at e
  split at e
  · rename_i r h' hg
    refine ⟨r, h', of_GV hg, ?_⟩
    cases r with
    | int k' n' => rw [pu_int] at e; simp at e
    | sl xs t => obtain ⟨t', e'⟩ := pur_sl h' xs t; rw [e'] at e; simp at e
    | ref => rw [pu_ref] at e; simp at e
    | agg cs =>
      rw [pu_agg, Option.map_eq_some_iff] at e
      obtain ⟨c, hc, e⟩ := e
      simp only [AVal.agg.injEq] at e
      subst e
      rw [purB hc]
    | tup cs => rw [pu_tup] at e; simp at e
    | fn f cs => simp only [purify, Option.map_eq_some_iff] at e; obtain ⟨_, _, e⟩ := e; simp at e
    | _ => simp [purify] at e
  · simp at e
theorem parts_c (n : Int) (t : Bs) (h : Heap) : CV F 74 [.int .i64 n, .str t] h (fun v h' => v = .fn 90 [.ptr (h.next + 1) 0, .ptr h.next 0] ∧ h' = (h.push (.row true 0 false [.int .i64 n])).push (.row true 0 false [.str t])) := by
  refine CV_wp (fn := c74) rfl ?_
  dsimp only [c74]
  replace fx := Dum_eq
  (first | refine go ?_ | exact goC | skip); repeat' (first | refine gP ?_ | exact gPc | refine gN ?_ | exact gNc | (refine gI ?_ ?_ <;> intro hyp <;> first | refine goF ?_ | exact goFc | refine goT ?_ | exact goTc | skip))
def BR (h : Heap) (id : Nat) (l : List UInt8) : Prop := ∃ S ag, h.get id = some (.row true S ag (l.map byteV))
theorem zrow (n : Nat) (hn : n = 64 ∨ n = 32) : (List.replicate n (AVal.int .u8 0)) = (List.replicate n (0 : UInt8)).map byteV := by rw [List.map_replicate]; rfl
theorem putB_app (a : List UInt8) (m : Nat) (t : List UInt8) (h : t.length ≤ m) : putB (a ++ List.replicate m 0) a.length t = (a ++ t) ++ List.replicate (m - t.length) 0 := by
  rw [putB, List.take_left' rfl, List.append_assoc]
  congr 2
  rw [← List.drop_drop, List.drop_left' rfl, List.drop_replicate]
theorem sec_steps (N k : Nat) (rest : Bs) (b1 b2 b3 b4 : List UInt8) (hb1 : b1 = putB (List.replicate 64 0) 0 (Jn.small N 4)) (hb2 : b2 = putB b1 4 (Jn.small k 2)) (hb3 : b3 = putB b2 6 (Jn.small rest.length 2)) (hb4 : b4 = putB b3 8 (rest.take 48)) :
    b1.length = 64 ∧ b2.length = 64 ∧ b3.length = 64 ∧ b4.length = 64 ∧ b4.take 56 = body N k rest ∧ ∀ s : List UInt8, s.length = 8 → putB b4 56 s = body N k rest ++ s := by
  have s4 := small_len N 4
  have s2 := small_len k 2
  have s3 := small_len rest.length 2
  have e1 : b1 = Jn.small N 4 ++ List.replicate 60 0 := by
    have := putB_app [] 64 (Jn.small N 4) (by omega)
    rw [s4] at this; rw [hb1]; exact this
  have e2 : b2 = (Jn.small N 4 ++ Jn.small k 2) ++ List.replicate 58 0 := by
    have := putB_app (Jn.small N 4) 60 (Jn.small k 2) (by omega)
    rw [s4, s2] at this; rw [hb2, e1]; exact this
  have e3 : b3 = (Jn.small N 4 ++ Jn.small k 2 ++ Jn.small rest.length 2) ++ List.replicate 56 0 := by
    have := putB_app (Jn.small N 4 ++ Jn.small k 2) 58 (Jn.small rest.length 2) (by omega)
    rw [List.length_append, s4, s2, s3] at this; rw [hb3, e2]; exact this
  have e4 : b4 = body N k rest ++ List.replicate 8 0 := by
    have := putB_app (Jn.small N 4 ++ Jn.small k 2 ++ Jn.small rest.length 2) 56 (rest.take 48) (by rw [List.length_take]; omega)
    rw [List.length_append, List.length_append, s4, s2, s3] at this
    rw [hb4, e3, show (8 : Nat) = 4 + 2 + 2 from rfl, this]
    have e : List.replicate (56 - (rest.take 48).length) (0 : UInt8) = List.replicate (48 - rest.length) 0 ++ List.replicate 8 0 := by
      rw [List.replicate_append_replicate]; congr 1; rw [List.length_take]; omega
    rw [e, body]
    simp only [List.append_assoc]
  have bl := body_len N k rest
  refine ⟨by rw [e1]; simp [s4], by rw [e2]; simp [s4, s2], by rw [e3]; simp [s4, s2, s3], by rw [e4]; simp [bl], by rw [e4, List.take_left' bl], fun s hs => ?_⟩
  have := putB_app (body N k rest) 8 s (by omega)
  rw [bl, hs] at this
  rw [e4, this]; simp
theorem parts1_c (N : Nat) (t : Bs) (hN : N ≤ 4096) (ht : t.length ≤ 8000) {H : Heap} {id c1 c2 : Nat} {I : Nat → Heap → Prop} (h0 : I 0 H)
    (hbox : ∀ k h, I k h → h.get c1 = some (.row true 0 false [.str t]) ∧ h.get c2 = some (.row true 0 false [.int .i64 (N : Int)]))
    (hfr : ∀ k h h', I k h → Fr (fun _ => False) h h' → I k h')
    (step : ∀ k h, k < count t.length → I k h → YV F id [.agg ((sector N t k).map byteV)] h (fun v h' => v = .bool true ∧ I (k + 1) h')) :
    CV F 90 [.yld id, .ptr c1 0, .ptr c2 0] H (fun _ h' => I (count t.length) h') := by
  have hc := count_v t.length
  refine CV_wp (fn := c90) rfl ?_
  dsimp only [c90]
  obtain ⟨g1, g2⟩ := hbox _ _ h0
  replace fx := aI @g1 @hc
  (first | refine go ?_ | exact goC | skip); repeat' (first | refine gP ?_ | exact gPc | refine gN ?_ | exact gNc | (refine gI ?_ ?_ <;> intro hyp <;> first | refine goF ?_ | exact goFc | refine goT ?_ | exact goTc | skip))
  clear g1 g2
  refine w_loop (fun m vs h => ∃ (k : Nat) (x1 x2 x3 x4 x5 x6 : AVal), m = count t.length - k ∧ k ≤ count t.length ∧ vs = [.yld id, .ptr c1 0, .ptr c2 0, x1, x2, x3, x4, .int .i64 (count t.length : Int), .int .i64 (k : Int), x5, x6] ∧ I k h) (count t.length)
    ⟨0, _, _, _, _, _, _, rfl, by omega, rfl, h0⟩ ?_
  rintro m vs h ⟨k, x1, x2, x3, x4, x5, x6, rfl, hk, rfl, hI⟩
  obtain ⟨g1, g2⟩ := hbox _ _ hI
  by_cases hkc : k < count t.length
  · have hb := count_lt t.length (by omega) hkc
    have hcl := count_le t.length
    have T48 : (48 * (k : Int)).toNat = 48 * k := by omega
    obtain ⟨rest, hrest⟩ : ∃ rest, rest = t.drop (48 * k) := ⟨_, rfl⟩
    have hrl : rest.length ≤ 8000 := by rw [hrest, List.length_drop]; omega
    have hsec := sec_steps N k rest
    obtain ⟨b1, hb1⟩ : ∃ b, b = putB (List.replicate 64 0) 0 (Jn.small N 4) := ⟨_, rfl⟩
    obtain ⟨b2, hb2⟩ : ∃ b, b = putB b1 4 (Jn.small k 2) := ⟨_, rfl⟩
    obtain ⟨b3, hb3⟩ : ∃ b, b = putB b2 6 (Jn.small rest.length 2) := ⟨_, rfl⟩
    obtain ⟨b4, hb4⟩ : ∃ b, b = putB b3 8 (rest.take 48) := ⟨_, rfl⟩
    obtain ⟨hs1, hs2, hs3, hs4, hs5, hs6⟩ := hsec b1 b2 b3 b4 hb1 hb2 hb3 hb4
    obtain ⟨z, hz⟩ : ∃ z, z = List.replicate 64 (0 : UInt8) := ⟨_, rfl⟩
    obtain ⟨y, hy⟩ : ∃ y, y = List.replicate 32 (0 : UInt8) := ⟨_, rfl⟩
    have zl : z.length = 64 := by rw [hz]; simp
    have yl : y.length = 32 := by rw [hy]; simp
    have zo := bytes_all z
    have yo := bytes_all y
    rw [zrow 64 (.inl rfl), zrow 32 (.inr rfl), ← hz, ← hy]
    rw [← hz] at hb1
    have l1 := get_lt g1
    have l2 := get_lt g2
    replace fx := aI @g1 (aI @g2 (aI @T48 (aI @aR (aI @bR (aI @zl @zo)))))
    (first | refine go ?_ | exact goC | skip); repeat' (first | refine gP ?_ | exact gPc | refine gN ?_ | exact gNc | (refine gI ?_ ?_ <;> intro hyp <;> first | refine goF ?_ | exact goFc | refine goT ?_ | exact goTc | skip))
    refine CV_mono (put_c (l := z) (off := 0) (n := 4) (get_push_eq rfl) (by omega) (by omega) N (by omega)) ?_
    rintro v h1 ⟨q1, f1⟩
    rw [← hb1] at q1
    rw [← hrest]
    have F1 := Fr.fresh (Fr.push (Fr.refl _ h) _) f1 (Nat.le_refl _)
    obtain ⟨a, ha⟩ : ∃ a, a = h.next := ⟨_, rfl⟩
    rw [← ha] at q1 ⊢
    replace fx := aI @q1 (aI @aR (aI @bR @hs1))
    (first | refine go ?_ | exact goC | skip); repeat' (first | refine gP ?_ | exact gPc | refine gN ?_ | exact gNc | (refine gI ?_ ?_ <;> intro hyp <;> first | refine goF ?_ | exact goFc | refine goT ?_ | exact goTc | skip))
    refine CV_mono (put_c q1 (by omega) (by omega) k (by omega)) ?_
    rintro v h2 ⟨q2, f2⟩
    have F2 := Fr.fresh F1 f2 (by omega)
    rw [← hb2] at q2
    replace fx := aI @q2 (aI @aR (aI @bR @hs2))
    (first | refine go ?_ | exact goC | skip); repeat' (first | refine gP ?_ | exact gPc | refine gN ?_ | exact gNc | (refine gI ?_ ?_ <;> intro hyp <;> first | refine goF ?_ | exact goFc | refine goT ?_ | exact goTc | skip))
    refine CV_mono (put_c q2 (by omega) (by omega) rest.length (by omega)) ?_
    rintro v h3 ⟨q3, f3⟩
    have F3 := Fr.fresh F2 f3 (by omega)
    rw [← hb3] at q3
    have cp := copy_s q3 (show 8 + 48 ≤ b3.length by omega) rest
    rw [← hb4] at cp
    replace fx := aI @q3 (aI @aR (aI @bR (aI @hs3 @cp)))
    (first | refine go ?_ | exact goC | skip); repeat' (first | refine gP ?_ | exact gPc | refine gN ?_ | exact gNc | (refine gI ?_ ?_ <;> intro hyp <;> first | refine goF ?_ | exact goFc | refine goT ?_ | exact goTc | skip))
    have q4 := get_put_old (o := some (Obj.row true (typed 96) true (b4.map byteV))) q3
    obtain ⟨h4, hh4⟩ : ∃ h4, h4 = h3.put a (some (Obj.row true (typed 96) true (b4.map byteV))) := ⟨_, rfl⟩
    have F4 : Fr (fun _ => False) h h4 := by rw [hh4]; exact F3.put (.inr (by omega)) _
    rw [← hh4] at q4 ⊢
    obtain ⟨r, hh, gv, rfl⟩ := hash_cv (body N k rest) (by rw [body_len]; omega)
    refine ⟨[.sl ((body N k rest).map byteV) .none], by rw [pu_bytes q4 (by decide) (by omega), List.drop_zero, hs5]; rfl, _, _, GV_of gv, scal_bytes _, ?_⟩
    have sl := sum_len (body N k rest)
    have so := bytes_all (sum (body N k rest))
    obtain ⟨S, hS⟩ : ∃ S, S = sum (body N k rest) := ⟨_, rfl⟩
    rw [← hS] at sl so ⊢
    have st := set_bytes y S (by rw [yl, sl])
    have q5 : ∀ o, (h4.push o).get a = _ := fun o => get_push_old q4
    replace fx := aI @q4 (aI @q5 (aI @aR (aI @bR (aI @hs4 (aI @yl (aI @yo (aI @sl (aI @so @st))))))))
    (first | refine go ?_ | exact goC | skip); repeat' (first | refine gP ?_ | exact gPc | refine gN ?_ | exact gNc | (refine gI ?_ ?_ <;> intro hyp <;> first | refine goF ?_ | exact goFc | refine goT ?_ | exact goTc | skip))
    have cp2 := copy_r (q5 (.row true (typed 125) true (S.map byteV))) (show 56 + 8 ≤ b4.length by omega) (get_push_eq rfl) (show 0 + 32 ≤ S.length by omega)
    have hsec2 : putB b4 56 (((S.drop 0).take 32).take 8) = sector N t k := by
      rw [List.drop_zero, List.take_of_length_le (show S.length ≤ 32 by omega), hs6 _ (by rw [List.length_take]; omega), hS, sector, ← hrest]; rfl
    rw [hsec2] at cp2
    have slen := sector_len N t k
    obtain ⟨sec, hsc⟩ : ∃ sec, sec = sector N t k := ⟨_, rfl⟩
    have st1 := step k
    rw [← hsc] at cp2 slen st1
    have stk : (sec.map byteV).take 64 = sec.map byteV := List.take_of_length_le (by rw [List.length_map, slen]; omega)
    have q6 : ∀ o o', ((h4.push o).put a o').get a = o' := fun o o' => get_put_old (q5 o)
    replace fx := aI @cp2 (aI @q6 (aI @slen @stk))
    (first | refine go ?_ | exact goC | skip); repeat' (first | refine gP ?_ | exact gPc | refine gN ?_ | exact gNc | (refine gI ?_ ?_ <;> intro hyp <;> first | refine goF ?_ | exact goFc | refine goT ?_ | exact goTc | skip))
    refine YV_mono (st1 _ hkc (hfr _ _ _ hI ((F4.push _).put (.inr (by omega)) _))) ?_
    rintro v h' ⟨rfl, hI'⟩
    replace fx := Dum_eq
    (first | refine go ?_ | exact goC | skip); repeat' (first | refine gP ?_ | exact gPc | refine gN ?_ | exact gNc | (refine gI ?_ ?_ <;> intro hyp <;> first | refine goF ?_ | exact goFc | refine goT ?_ | exact goTc | skip))
    exact lp_n ⟨_, by omega, k + 1, _, _, _, _, _, _, rfl, by omega, by push_cast; rfl, hI'⟩
  · have e : k = count t.length := by omega
    subst e
    replace fx := Dum_eq
    (first | refine go ?_ | exact goC | skip); repeat' (first | refine gP ?_ | exact gPc | refine gN ?_ | exact gNc | (refine gI ?_ ?_ <;> intro hyp <;> first | refine goF ?_ | exact goFc | refine goT ?_ | exact goTc | skip))
    exact hI
theorem pack_c (n : Int) (t : Bs) (ht : t.length ≤ 100000) : CV F 40 [.int .i64 n, .str t] Heap.empty (fun v h' => purify h' v = some (packV n t)) := by
  refine CV_wp (fn := c40) rfl ?_
  dsimp only [c40]
  unfold packV
  by_cases h1 : n < 1 ∨ 4096 < n
  · rw [if_pos h1]
    replace fx := Dum_eq
    (first | refine go ?_ | exact goC | skip); repeat' (first | refine gP ?_ | exact gPc | refine gN ?_ | exact gNc | (refine gI ?_ ?_ <;> intro hyp <;> first | refine goF ?_ | exact goFc | refine goT ?_ | exact goTc | skip))
  · rw [if_neg h1]
    by_cases h2 : 8000 < t.length
    · rw [if_pos h2]
      replace fx := Dum_eq
      (first | refine go ?_ | exact goC | skip); repeat' (first | refine gP ?_ | exact gPc | refine gN ?_ | exact gNc | (refine gI ?_ ?_ <;> intro hyp <;> first | refine goF ?_ | exact goFc | refine goT ?_ | exact goTc | skip))
    · rw [if_neg h2]
      obtain ⟨N, rfl⟩ : ∃ N : Nat, n = (N : Int) := ⟨n.toNat, by omega⟩
      replace fx := Dum_eq
      (first | refine go ?_ | exact goC | skip); repeat' (first | refine gP ?_ | exact gPc | refine gN ?_ | exact gNc | (refine gI ?_ ?_ <;> intro hyp <;> first | refine goF ?_ | exact goFc | refine goT ?_ | exact goTc | skip))
      refine CV_mono (parts_c _ _ _) ?_
      rintro v h1 ⟨rfl, rfl⟩
      replace fx := Dum_eq
      (first | refine go ?_ | exact goC | skip); repeat' (first | refine gP ?_ | exact gPc | refine gN ?_ | exact gNc | (refine gI ?_ ?_ <;> intro hyp <;> first | refine goF ?_ | exact goFc | refine goT ?_ | exact goTc | skip))
      obtain ⟨V, hV⟩ : ∃ V, V = [AVal.int .i64 (N : Int), .str t, .sl [] .nil, .int .i64 0, .ptr 0 0, .tup [], .bool (decide ((4096 : Int) < N)), .bool (decide ((8000 : Int) < t.length)), .fn 90 [.ptr 2 0, .ptr 1 0], .tup []] := ⟨_, rfl⟩
      obtain ⟨H, hH⟩ : ∃ H, H = (((Heap.empty.push (Obj.row true (typed 22) false [AVal.sl [] Tok.nil])).push (Obj.row true 0 false [AVal.int IntKind.i64 (N : Int)])).push (Obj.row true 0 false [AVal.str t])) := ⟨_, rfl⟩
      have hn : H.next = 3 := by rw [hH]; rfl
      have e0 : H.get 0 = some (Obj.row true (typed 22) false [AVal.sl [] Tok.nil]) := by rw [hH]; rfl
      have e1 : H.get 1 = some (Obj.row true 0 false [AVal.int IntKind.i64 (N : Int)]) := by rw [hH]; rfl
      have e2 : H.get 2 = some (Obj.row true 0 false [AVal.str t]) := by rw [hH]; rfl
      rw [← hH, ← hV]
      have hcl := count_le t.length
      refine w_rfuncC (by rw [hV]; rfl) (CV_mono (parts1_c N t (by omega) (by omega) (I := fun k h => (∃ tk, h.get 0 = some (.row true (typed 22) false [.sl (((pack N t).take k).map AVal.str) tk]) ∧ Gr h 9 1 ((pack N t).take k) tk) ∧ h.get 1 = some (Obj.row true 0 false [AVal.int IntKind.i64 (N : Int)]) ∧ h.get 2 = some (Obj.row true 0 false [AVal.str t]) ∧ h.get 3 = some (.lrec .ready 40 0 [0, 1, 4, 5, 6, 7, 8, 15, 21, 22] V))
        ⟨⟨_, ?_, Gr.nil _ _ _⟩, ?_, ?_, ?_⟩ (fun k h g => ⟨g.2.2.1, g.2.1⟩) ?_ ?_) ?_)
      · rw [get_push_ne (by omega)]; exact e0
      · rw [get_push_ne (by omega)]; exact e1
      · rw [get_push_ne (by omega)]; exact e2
      · exact get_push_eq hn.symm
      · rintro k h h' ⟨⟨tk, g0, G⟩, g1, g2, g3⟩ f
        exact ⟨⟨tk, f.get g0 (fun q => q), G.fr f (fun _ _ _ q => q)⟩, f.get g1 (fun q => q), f.get g2 (fun q => q), f.get g3 (fun q => q)⟩
      · rw [hn]
        rintro k h hk ⟨⟨tk, g0, G⟩, g1, g2, g3⟩
        refine y_wp g3 rfl rfl rfl rfl ?_
        dsimp only [c40, c40L0]
        rw [hV]
        simp only [setPs, List.set_cons_succ, List.set_cons_zero]
        have hz := zrow 64 (.inl rfl)
        obtain ⟨z, hzz⟩ : ∃ z, z = List.replicate 64 (0 : UInt8) := ⟨_, rfl⟩
        have zl : z.length = 64 := by rw [hzz]; simp
        have zo := bytes_all z
        have slen := sector_len N t k
        have hpt := pack_take N t hk
        obtain ⟨sec, hsc⟩ : ∃ sec, sec = sector N t k := ⟨_, rfl⟩
        rw [← hsc] at slen hpt ⊢
        have so := bytes_all sec
        have sst := set_bytes z sec (by rw [zl, slen])
        rw [hz, ← hzz]
        have l3 := get_lt g3
        replace fx := aI @zl (aI @zo (aI @so (aI @slen @sst)))
        (first | refine go ?_ | exact goC | skip); repeat' (first | refine gP ?_ | exact gPc | refine gN ?_ | exact gNc | (refine gI ?_ ?_ <;> intro hyp <;> first | refine goF ?_ | exact goFc | refine goT ?_ | exact goTc | skip))
        refine beginY_n ((get_push_ne (by omega)).trans (g3.trans (by rw [hV]))) ?_
        rw [put_push_ne _ (by omega)]
        obtain ⟨h2, hh2⟩ : ∃ h2, h2 = h.put 3 (some (.lrec .busy 40 0 [0, 1, 4, 5, 6, 7, 8, 15, 21, 22] V)) := ⟨_, rfl⟩
        have n2 : h2.next = h.next := by rw [hh2, put_next]
        have k0 : h2.get 0 = h.get 0 := by rw [hh2, get_put_ne (by omega)]
        rw [g0] at k0
        have k1 : h2.get 1 = h.get 1 := by rw [hh2, get_put_ne (by omega)]
        rw [g1] at k1
        have k2 : h2.get 2 = h.get 2 := by rw [hh2, get_put_ne (by omega)]
        rw [g2] at k2
        have k3 := get_put_old (o := some (.lrec .busy 40 0 [0, 1, 4, 5, 6, 7, 8, 15, 21, 22] V)) g3
        rw [← hh2] at k3
        have G2 : Gr h2 9 1 ((pack N t).take k) tk := by
          rcases G with G | ⟨i, e, G⟩
          · exact .inl G
          · exact .inr ⟨i, e, by rw [hh2, get_put_ne (by rintro rfl; rw [g3] at G; simp at G)]; exact G⟩
        rw [← hV, ← hh2, ← n2]
        clear hh2 g0 g1 g2 g3 G
        have T : sec.take 64 = sec := List.take_of_length_le (by omega)
        have ls : ∀ (x : Bs) H, litA 0 9 1 1 false [.str []] (some [.str x]) H = some (.sl ([x].map AVal.str) .none, H) := fun x H => lit_none rfl rfl rfl rfl
        have kr : ∀ o, (h2.push o).get h2.next = some o := fun o => get_push_eq rfl
        have l3' : 3 < h2.next := by omega
        replace fx := aI @k0 (aI @kr (aI @aR (aI @bR (aI @slen (aI @T @ls)))))
        (first | refine go ?_ | exact goC | skip); repeat' (first | refine gP ?_ | exact gPc | refine gN ?_ | exact gNc | (refine gI ?_ ?_ <;> intro hyp <;> first | refine goF ?_ | exact goFc | refine goT ?_ | exact goTc | skip))
        obtain ⟨hp, hhp⟩ : ∃ hp, hp = h2.push (Obj.row true (typed 96) true (sec.map byteV)) := ⟨_, rfl⟩
        have p0 := push_eqs hhp k0
        have p1 := push_eqs hhp k1
        have p2 := push_eqs hhp k2
        have p3 := push_eqs hhp k3
        have Gp : Gr hp 9 1 ((pack N t).take k) tk := G2.fr (S := fun _ => False) (by rw [hhp]; exact (Fr.refl _ _).push _) (fun _ _ _ q => q)
        rw [← hhp]
        clear hhp
        have lp3 := get_lt p3
        refine append_F (f := AVal.str) ((pack N t).take k) [sec] str_len (fun x => rfl) (fun x => rfl) rfl (elems_sl (l := [_]) str_len) Gp.toF (by rw [List.length_take]; simp; omega) (by omega) (by omega) (by omega) ?_
        intro h6 tk6 G6 n6 r6 o6
        rw [← hpt] at G6 ⊢
        have q0 := r6 _ _ _ _ _ p0
        have q1 := r6 _ _ _ _ _ p1
        have q2 := r6 _ _ _ _ _ p2
        have q3 : h6.get 3 = hp.get 3 := o6 3 lp3 (by
          rintro i s e rfl
          rcases Gp with ⟨_, e' | e'⟩ | ⟨j, e', g⟩
          · rw [e'] at e; simp at e
          · rw [e'] at e; simp at e
          · rw [e'] at e; simp only [Tok.own.injEq] at e; rw [e.1, p3] at g; simp at g)
        rw [p3] at q3
        replace fx := @q0
        (first | refine go ?_ | exact goC | skip); repeat' (first | refine gP ?_ | exact gPc | refine gN ?_ | exact gNc | (refine gI ?_ ?_ <;> intro hyp <;> first | refine goF ?_ | exact goFc | refine goT ?_ | exact goTc | skip))
        refine afterY_n ((get_put_ne (by omega)).trans q3) ?_
        refine ⟨rfl, ⟨tk6, ?_, ?_⟩, ?_, ?_, ?_⟩
        · rw [get_put_ne (by omega)]; exact get_put_old q0
        · rcases G6.1 with G6 | ⟨i, e, G6⟩
          · exact .inl G6
          · exact .inr ⟨i, e, by rw [get_put_ne (by rintro rfl; rw [q3] at G6; simp at G6), get_put_ne (by rintro rfl; rw [q0] at G6; simp at G6)]; exact G6⟩
        · rw [get_put_ne (by omega), get_put_ne (by omega)]; exact q1
        · rw [get_put_ne (by omega), get_put_ne (by omega)]; exact q2
        · exact get_put_old ((get_put_ne (by omega)).trans q3)
      · rw [hn]
        rintro r h' ⟨⟨tk, g0, G⟩, g1, g2, g3⟩
        refine afterL_n g3 ?_
        rw [hV]
        have ep : (pack N t).take (count t.length) = pack N t := List.take_of_length_le (by rw [pack_len]; omega)
        rw [ep] at g0
        replace fx := aI @g0 @get_put_ne
        (first | refine go ?_ | exact goC | skip); repeat' (first | refine gP ?_ | exact gPc | refine gN ?_ | exact gNc | (refine gI ?_ ?_ <;> intro hyp <;> first | refine goF ?_ | exact goFc | refine goT ?_ | exact goTc | skip))
        rw [ep] at G
        rcases G with ⟨e, _⟩ | ⟨i, rfl, _⟩
        · have e1 := congrArg List.length e
          rw [pack_len, List.length_nil] at e1
          have := count_pos t.length (by omega)
          omega
        · rfl
end Go.Proofs.YtjofjgflcogklaaGreatDoor

namespace Go.Abs
variable {F : Nat → Option AEnt}
theorem pu_bytes2 {l : List UInt8} {h : Heap} {id off n : Nat} {mu : Bool} {S : Nat} {ag : Bool} (g : h.get id = some (.row mu S ag (l.map byteV))) (hS : S ≠ 1 ∨ ag = false) (hl : off + n ≤ l.length) : purify h (.ref id off n 1) = some (.sl (((l.drop off).take n).map byteV) .none) := by
  by_cases h1 : S = 1
  · subst h1
    have ha : ag = false := by rcases hS with q | q <;> simp_all
    subst ha
    rw [pu_ref]
    have hr : readRef h id off n 1 = some (((l.drop off).take n).map byteV) := by
      unfold readRef
      simp only [g]
      rw [if_pos ⟨.inl trivial, by rw [List.length_map]; omega⟩]
      simp only [strip_bytes, Bool.false_and]
      have hc := chunkm (f := byteV) (sz := 1) byte_len false (fun x => rfl) ((l.drop off).take n) (((l.drop off).drop n).map byteV)
      have hn : ((l.drop off).take n).length = n := by rw [List.length_take, List.length_drop]; omega
      rw [hn] at hc
      have e : (l.map byteV).drop off = flat (((l.drop off).take n).map byteV) ++ ((l.drop off).drop n).map byteV := by
        rw [flat_byte, ← List.map_append, List.take_append_drop, List.map_drop]
      rw [e]; exact hc
    rw [hr]; rfl
  · exact pu_bytes g h1 hl
theorem lend1 {f : Nat} {h : Heap} {id off n S : Nat} {mu ag : Bool} {l : List UInt8} {r : AVal} {K : AVal → Prop} (g : h.get id = some (.row mu S ag (l.map byteV))) (hS : S ≠ 1 ∨ ag = false) (hl : off + n ≤ l.length)
    (c : CV F f [.sl (((l.drop off).take n).map byteV) .none] Heap.empty (fun v _ => v = r)) (hsc : scal r = true) (k : K r) :
    ∃ asx, sc (purify h (.ref id off n 1)) (some []) = some asx ∧ ∃ r h', GV F f asx Heap.empty = some (r, h') ∧ scal r = true ∧ K r := by
  obtain ⟨v, h', c, rfl⟩ := c
  exact ⟨[_], by rw [pu_bytes2 g hS hl]; rfl, _, _, GV_of c, hsc, k⟩
theorem lend2 {f : Nat} {h : Heap} {id off n S id2 off2 n2 S2 : Nat} {mu ag mu2 ag2 : Bool} {l l2 : List UInt8} {r : AVal} {K : AVal → Prop} (g : h.get id = some (.row mu S ag (l.map byteV))) (hS : S ≠ 1 ∨ ag = false) (hl : off + n ≤ l.length)
    (g2 : h.get id2 = some (.row mu2 S2 ag2 (l2.map byteV))) (hS2 : S2 ≠ 1 ∨ ag2 = false) (hl2 : off2 + n2 ≤ l2.length)
    (c : CV F f [.sl (((l.drop off).take n).map byteV) .none, .sl (((l2.drop off2).take n2).map byteV) .none] Heap.empty (fun v _ => v = r)) (hsc : scal r = true) (k : K r) :
    ∃ asx, sc (purify h (.ref id off n 1)) (sc (purify h (.ref id2 off2 n2 1)) (some [])) = some asx ∧ ∃ r h', GV F f asx Heap.empty = some (r, h') ∧ scal r = true ∧ K r := by
  obtain ⟨v, h', c, rfl⟩ := c
  exact ⟨[_, _], by rw [pu_bytes2 g hS hl, pu_bytes2 g2 hS2 hl2]; rfl, _, _, GV_of c, hsc, k⟩
end Go.Abs
namespace Go.Proofs.YtjofjgflcogklaaGreatDoor
open Go Go.Abs Go.Sha Go.Jn
theorem pack_v (n : Int) (t : Bs) (ht : t.length ≤ 100000) : PV F 40 [.int .i64 n, .str t] = some (packV n t) := by
  obtain ⟨r, h', g, e⟩ := pack_c n t ht
  exact PV_of g e
theorem equal_cv (a b : Bs) : CV F 77 [.sl (a.map byteV) .none, .sl (b.map byteV) .none] Heap.empty (fun v _ => v = .bool (decide (a = b))) := by
  refine CV_wp (fn := c77) rfl ?_
  dsimp only [c77]
  replace fx := Dum_eq
  (first | refine go ?_ | exact goC | skip); repeat' (first | refine gP ?_ | exact gPc | refine gN ?_ | exact gNc | (refine gI ?_ ?_ <;> intro hyp <;> first | refine goF ?_ | exact goFc | refine goT ?_ | exact goTc | skip))
theorem checked_iff (s : Bs) (h : s.length = 64) : checked (s.take 56) = s ↔ (sum (s.take 56)).take 8 = s.drop 56 := by
  have e : s = s.take 56 ++ s.drop 56 := (List.take_append_drop 56 s).symm
  have hl : (s.take 56).length = 56 := by rw [List.length_take]; omega
  unfold checked
  constructor
  · intro q
    have := congrArg (List.drop 56) q
    rwa [List.drop_left' hl] at this
  · intro q
    rw [q]; exact e.symm
theorem repl_b (n : Nat) : repl n [AVal.int .u8 0] = (List.replicate n (0 : UInt8)).map byteV := by
  induction n with
  | zero => rfl
  | succ n ih => rw [List.replicate_succ, List.map_cons, ← ih]; rfl
theorem unpack_v (s : Bs) (hs : s.length ≤ 1000000) : PV F 49 [.str s] = some (partV (unpack s)) := by
  have hz := zrow 64 (.inl rfl)
  have hy := zrow 32 (.inr rfl)
  obtain ⟨z, hzz⟩ : ∃ z, z = List.replicate 64 (0 : UInt8) := ⟨_, rfl⟩
  obtain ⟨y, hyy⟩ : ∃ y, y = List.replicate 32 (0 : UInt8) := ⟨_, rfl⟩
  have zl : z.length = 64 := by rw [hzz]; simp
  have yl : y.length = 32 := by rw [hyy]; simp
  have zo := bytes_all z
  have yo := bytes_all y
  refine PV_wp (fn := c49) rfl ?_
  dsimp only [c49]
  rw [hz, hy, ← hzz, ← hyy]
  by_cases h64 : s.length = 64
  · have so := bytes_all s
    have sst := set_bytes z s (by rw [zl, h64])
    have stk : (s.map byteV).take 64 = s.map byteV := List.take_of_length_le (by rw [List.length_map]; omega)
    have tk : s.take 64 = s := List.take_of_length_le (by omega)
    replace fx := aI @zl (aI @yl (aI @zo (aI @yo (aI @so (aI @sst (aI @stk (aI @tk (aI @h64 (aI @aR @bR)))))))))
    (first | refine go ?_ | exact goC | skip); repeat' (first | refine gP ?_ | exact gPc | refine gN ?_ | exact gNc | (refine gI ?_ ?_ <;> intro hyp <;> first | refine goF ?_ | exact goFc | refine goT ?_ | exact goTc | skip))
    obtain ⟨R0, hR0⟩ : ∃ R, R = Obj.row true (typed 94) true [AVal.int IntKind.i64 0, AVal.int IntKind.i64 0, AVal.int IntKind.i64 0, AVal.str [], AVal.bool false] := ⟨_, rfl⟩
    obtain ⟨H, hH⟩ : ∃ H, H = (Heap.empty.push R0).push (Obj.row true (typed 96) true (s.map byteV)) := ⟨_, rfl⟩
    have hn : H.next = 2 := by rw [hH]; rfl
    have g0 : H.get 0 = some R0 := by rw [hH]; rfl
    have g1 : H.get 1 = some (Obj.row true (typed 96) true (s.map byteV)) := by rw [hH]; rfl
    rw [← hR0, ← hH]
    refine lend1 g1 (.inl (by decide)) (by omega) (hash_cv _ (by rw [List.length_take, List.length_drop]; omega)) (scal_bytes _) ?_
    rw [List.drop_zero]
    have sl := sum_len (s.take 56)
    have sso := bytes_all (sum (s.take 56))
    obtain ⟨S, hS⟩ : ∃ S, S = sum (s.take 56) := ⟨_, rfl⟩
    have hck := checked_iff s h64
    rw [← hS] at sl sso hck ⊢
    have sst2 := set_bytes y S (by rw [yl, sl])
    replace fx := aI @hn (aI @yl (aI @yo (aI @sl (aI @sso (aI @sst2 (aI @g1 (aI @h64 (aI @aR @bR))))))))
    (first | refine go ?_ | exact goC | skip); repeat' (first | refine gP ?_ | exact gPc | refine gN ?_ | exact gNc | (refine gI ?_ ?_ <;> intro hyp <;> first | refine goF ?_ | exact goFc | refine goT ?_ | exact goTc | skip))
    obtain ⟨H2, hH2⟩ : ∃ H2, H2 = H.push (Obj.row true (typed 125) true (S.map byteV)) := ⟨_, rfl⟩
    have k0 := push_eqs hH2 g0
    have k1 := push_eqs hH2 g1
    have k2 : H2.get 2 = some (Obj.row true (typed 125) true (S.map byteV)) := by rw [hH2]; exact get_push_eq hn.symm
    have n2 : H2.next = 3 := by rw [hH2, push_next, hn]
    rw [← hH2]
    clear hH hH2 g0 g1
    obtain ⟨N, hN⟩ : ∃ N, N = num (s.take 4) := ⟨_, rfl⟩
    obtain ⟨P, hP⟩ : ∃ P, P = num ((s.drop 4).take 2) := ⟨_, rfl⟩
    obtain ⟨L, hL⟩ : ∃ L, L = num ((s.drop 6).take 2) := ⟨_, rfl⟩
    have hPl : P < 65536 := by have := num_lt ((s.drop 4).take 2); rw [List.length_take, List.length_drop, h64] at this; exact hP ▸ this
    have hLl : L < 65536 := by have := num_lt ((s.drop 6).take 2); rw [List.length_take, List.length_drop, h64] at this; exact hL ▸ this
    have hNl : N < 4294967296 := by have := num_lt (s.take 4); rw [List.length_take, h64] at this; exact hN ▸ this
    have c1 := get_c ((s.drop 0).take 4) (by rw [List.length_take]; omega)
    have c2 := get_c ((s.drop 4).take 2) (by rw [List.length_take]; omega)
    have c3 := get_c ((s.drop 6).take 2) (by rw [List.length_take]; omega)
    refine lend1 k1 (.inl (by decide)) (by omega) c1 rfl ?_
    refine lend1 k1 (.inl (by decide)) (by omega) c2 rfl ?_
    refine lend1 k1 (.inl (by decide)) (by omega) c3 rfl ?_
    rw [List.drop_zero, ← hN, ← hP, ← hL]
    clear c1 c2 c3
    have hf : fld s = ⟨N, P, L, (s.drop 8).take (min L 48)⟩ := by rw [fld, hN, hP, hL]
    have hg := good_iff s
    rw [hf] at hg
    simp only [] at hg
    rw [hck] at hg
    obtain ⟨M, hM⟩ : ∃ M, M = min L 48 := ⟨_, rfl⟩
    have hMl : M ≤ 48 := by omega
    have hMi : min (L : Int) 48 = (M : Int) := by omega
    have hT : (48 - (M : Int)).toNat = 48 - M := by omega
    rw [← hM] at hg hf
    replace fx := aI @n2 (aI @k0 (aI @k1 (aI @k2 (aI @sl (aI @h64 (aI @aR (aI @bR (aI @XW_mnxK (aI @mnx_min (aI @hMi @hT))))))))))
    (first | refine go ?_ | exact goC | skip); repeat' (first | refine gP ?_ | exact gPc | refine gN ?_ | exact gNc | (refine gI ?_ ?_ <;> intro hyp <;> first | refine goF ?_ | exact goFc | refine goT ?_ | exact goTc | skip))
    rw [repl_b]
    obtain ⟨R3, hR3⟩ : ∃ R, R = Obj.row true (typed 94) true [AVal.int IntKind.i64 (N : Int), AVal.int .i64 (P : Int), .int .i64 (L : Int), .str [], .bool true] := ⟨_, rfl⟩
    obtain ⟨R4, hR4⟩ : ∃ R, R = Obj.row true 1 false ((List.replicate (48 - M) (0 : UInt8)).map byteV) := ⟨_, rfl⟩
    obtain ⟨H4, hH4⟩ : ∃ H4, H4 = (H2.push R3).push R4 := ⟨_, rfl⟩
    have m0 := push_eqs hH4 (push_eqs rfl k0)
    have m1 := push_eqs hH4 (push_eqs rfl k1)
    have m2 := push_eqs hH4 (push_eqs rfl k2)
    have m3 : H4.get 3 = some R3 := push_eqs hH4 (get_push_eq n2.symm)
    have m4 : H4.get 4 = some R4 := by rw [hH4]; exact get_push_eq (by rw [push_next, n2])
    rw [← hR3, ← hR4, ← hH4]
    have n4 : H4.next = 5 := by rw [hH4, push_next, push_next, n2]
    clear hH4 k0 k1 k2
    refine lend2 m2 (.inl (by decide)) (by omega) m1 (.inl (by decide)) (by omega) (equal_cv _ _) rfl ?_
    have e8 : (s.drop 56).take 8 = s.drop 56 := List.take_of_length_le (by rw [List.length_drop]; omega)
    rw [List.drop_zero, e8]
    rw [hR3] at m3
    rw [hR0] at m0
    rw [hR4] at m4
    by_cases hp : S.take 8 = s.drop 56 ∧ 1 ≤ N ∧ N ≤ 4096 ∧ 48 * P + L ≤ 8000 ∧ ¬ (L < 1 ∧ 0 < P)
    · obtain ⟨p1, p2, p3, p4, p5⟩ := hp
      have T8 : (8 + (M : Int)).toNat = 8 + M := by omega
      have T9 : 56 - (8 + M) = 48 - M := by omega
      have ez : (List.replicate (48 - M) (0 : UInt8)).drop 0 = List.replicate (48 - M) 0 := rfl
      have et : (List.replicate (48 - M) (0 : UInt8)).take (48 - M) = List.replicate (48 - M) 0 := List.take_of_length_le (by simp)
      replace fx := aI @p1 (aI @m3 (aI @m1 (aI @h64 (aI @aR (aI @bR (aI @T8 @T9))))))
      (first | refine go ?_ | exact goC | skip); repeat' (first | refine gP ?_ | exact gPc | refine gN ?_ | exact gNc | (refine gI ?_ ?_ <;> intro hyp <;> first | refine goF ?_ | exact goFc | refine goT ?_ | exact goTc | skip))
      all_goals
        refine lend2 m1 (.inl (by decide)) (by omega) m4 (.inr rfl) (by simp) (equal_cv _ _) rfl ?_
        rw [ez, et]
        by_cases hz0 : (s.drop (8 + M)).take (48 - M) = List.replicate (48 - M) 0
        · have hgood : good s = true := hg.2 ⟨h64, p1, p2, p3, p4, p5, hz0⟩
          have T10 : 8 + M - 8 = M := by omega
          have gq : ∀ (a b : Option Abs.Obj), ((H4.put 3 a).put 0 b).get 0 = b := fun a b => get_put_old ((get_put_ne (by omega)).trans m0)
          rw [unpack_some hgood, hf]
          have gp : ∀ (a : Abs.Obj), (H4.put 3 (some a)).get 3 = some a := fun a => get_put_old m3
          replace fx := aI @hz0 (aI @m0 (aI @m3 (aI @gp (aI @gq (aI @h64 (aI @T8 @T10))))))
          (first | refine go ?_ | exact goC | skip); repeat' (first | refine gP ?_ | exact gPc | refine gN ?_ | exact gNc | (refine gI ?_ ?_ <;> intro hyp <;> first | refine goF ?_ | exact goFc | refine goT ?_ | exact goTc | skip))
          rfl
        · rw [unpack_none fun q => hz0 (hg.1 q).2.2.2.2.2.2]
          replace fx := aI @hz0 @m0
          (first | refine go ?_ | exact goC | skip); repeat' (first | refine gP ?_ | exact gPc | refine gN ?_ | exact gNc | (refine gI ?_ ?_ <;> intro hyp <;> first | refine goF ?_ | exact goFc | refine goT ?_ | exact goTc | skip))
          rfl
    · rw [unpack_none fun q => hp ⟨(hg.1 q).2.1, (hg.1 q).2.2.1, (hg.1 q).2.2.2.1, (hg.1 q).2.2.2.2.1, (hg.1 q).2.2.2.2.2.1⟩]
      replace fx := aI @m0 (aI @m3 (aI @m1 (aI @h64 (aI @aR @bR))))
      (first | refine go ?_ | exact goC | skip); repeat' (first | refine gP ?_ | exact gPc | refine gN ?_ | exact gNc | (refine gI ?_ ?_ <;> intro hyp <;> first | refine goF ?_ | exact goFc | refine goT ?_ | exact goTc | skip))
      all_goals first | rfl | (refine absurd ⟨?_, ?_, ?_, ?_, ?_⟩ hp <;> first | assumption | omega)
  · have e : unpack s = none := unpack_none (by rw [good_iff]; exact fun q => h64 q.1)
    replace fx := Dum_eq
    (first | refine go ?_ | exact goC | skip); repeat' (first | refine gP ?_ | exact gPc | refine gN ?_ | exact gNc | (refine gI ?_ ?_ <;> intro hyp <;> first | refine goF ?_ | exact goFc | refine goT ?_ | exact goTc | skip))
    rw [e]; rfl
theorem Unpack_v (s : Bs) (hs : s.length ≤ 1000000) : PV F 41 [.str s] = some (.tup (partC (unpack s))) := by
  have h1 := unpack_v s hs
  refine PV_wp (fn := c41) rfl ?_
  dsimp only [c41]
  cases hu : unpack s with
  | none =>
    rw [hu] at h1
    unfold partV partC at h1
    replace fx := @h1
    (first | refine go ?_ | exact goC | skip); repeat' (first | refine gP ?_ | exact gPc | refine gN ?_ | exact gNc | (refine gI ?_ ?_ <;> intro hyp <;> first | refine goF ?_ | exact goFc | refine goT ?_ | exact goTc | skip))
    rfl
  | some p =>
    rw [hu] at h1
    unfold partV partC at h1
    replace fx := @h1
    (first | refine go ?_ | exact goC | skip); repeat' (first | refine gP ?_ | exact gPc | refine gN ?_ | exact gNc | (refine gI ?_ ?_ <;> intro hyp <;> first | refine goF ?_ | exact goFc | refine goT ?_ | exact goTc | skip))
    rfl
end Go.Proofs.YtjofjgflcogklaaGreatDoor

namespace Go.Proofs.YtjofjgflcogklaaGreatDoor
open Go Go.Abs Go.Sha Go.Jn
theorem partV_none : partV none = .agg [.int .i64 0, .int .i64 0, .int .i64 0, .str [], .bool false] := rfl
theorem partV_some (p : Prt) : partV (some p) = .agg [.int .i64 (p.number : Int), .int .i64 (p.part : Int), .int .i64 (p.left : Int), .str p.pay, .bool true] := rfl
theorem partV_len (o : Option Prt) : (partV o).cells.length = 5 := by cases o <;> rfl
def recV (o : Option (Nat × Nat × Bs)) : AVal := match o with
  | none => .tup [.str [], .int .i64 0, .bool false]
  | some (_, c, t) => .tup [.str t, .int .i64 (c : Int), .bool true]
def POk (o : Option Prt) : Prop := ∀ p, o = some p → p.left ≤ 8000 ∧ 1 ≤ p.number ∧ p.number ≤ 4096 ∧ 48 * p.part + p.left ≤ 8000 ∧ p.pay.length ≤ 48
theorem unpack_ok (s : Bs) : POk (unpack s) := fun p h => unpack_left h
theorem textOf_succ (ps : List (Option Prt)) {k : Nat} (hk : k < ps.length) : textOf ps (k + 1) = textOf ps k ++ payO (nth ps k) := by
  simp only [textOf, List.take_succ_eq_append_getElem hk, List.flatMap_append, nth_eq hk]
  simp
theorem textOf_len (ps : List (Option Prt)) (hp : ∀ o ∈ ps, POk o) (k : Nat) : (textOf ps k).length ≤ 48 * k := by
  induction k with
  | zero => simp [textOf]
  | succ k ih =>
    by_cases hk : k < ps.length
    · rw [textOf_succ ps hk, List.length_append]
      have : (payO (nth ps k)).length ≤ 48 := by
        have hm := hp _ (nth_mem hk)
        cases hq : nth ps k with
        | none => simp [payO]
        | some q => exact (hm q hq).2.2.2.2
      omega
    · have : textOf ps (k + 1) = textOf ps k := by
        rw [textOf, textOf, List.take_of_length_le (by omega), List.take_of_length_le (by omega)]
      rw [this]; omega
theorem record_v (ps : List (Option Prt)) (hne : ps ≠ []) (hl : ps.length ≤ 1000000) (hp : ∀ o ∈ ps, POk o) : PV F 50 [.sl (ps.map partV) .none] = some (recV (record ps)) := by
  obtain ⟨o, ps', rfl⟩ : ∃ o ps', ps = o :: ps' := by cases ps with | nil => exact absurd rfl hne | cons a b => exact ⟨a, b, rfl⟩
  obtain ⟨ps, hps⟩ : ∃ ps, ps = o :: ps' := ⟨_, rfl⟩
  have h0 : nth ps 0 = o := by rw [hps]; rfl
  have hlen : 1 ≤ ps.length := by rw [hps]; simp
  rw [← hps] at hl hp ⊢
  have plen := partV_len
  refine PV_wp (fn := c50) rfl ?_
  dsimp only [c50]
  cases o with
  | none =>
    have hc := count_v 0
    have hr : record ps = none := by rw [hps]; rfl
    rw [hr]
    replace fx := aI @h0 (aI @partV_none @hc)
    (first | refine go ?_ | exact goC | skip); repeat' (first | refine gP ?_ | exact gPc | refine gN ?_ | exact gNc | (refine gI ?_ ?_ <;> intro hyp <;> first | refine goF ?_ | exact goFc | refine goT ?_ | exact goTc | skip))
    rfl
  | some p =>
    have hc := count_v p.left
    obtain ⟨l1, l2, l3, l4, l5⟩ := hp (some p) (by rw [hps]; simp) p rfl
    have hcl := count_le p.left
    have hc1 := count_pos p.left l1
    have hr : record ps = if decide (p.part = 0) && (decide (count p.left ≤ ps.length) && (List.range (count p.left)).all (chainOk ps p)) then some (p.number, count p.left, textOf ps (count p.left)) else none := by rw [hps]; rfl
    obtain ⟨C, hC⟩ : ∃ C, C = count p.left := ⟨_, rfl⟩
    rw [← hC] at hc hcl hc1 hr
    by_cases hq : p.part = 0 ∧ C ≤ ps.length
    · obtain ⟨q1, q2⟩ := hq
      have hsl := fun (h2 : (C : Int) ≤ ps.length) => slice_n_b partV ps .i64 (C : Int) (by omega) h2 partV_len
      have tkl : (ps.take C).length = C := by rw [List.length_take]; omega
      replace fx := aI @h0 (aI @partV_some (aI @hc (aI @hsl @tkl)))
      (first | refine go ?_ | exact goC | skip); repeat' (first | refine gP ?_ | exact gPc | refine gN ?_ | exact gNc | (refine gI ?_ ?_ <;> intro hyp <;> first | refine goF ?_ | exact goFc | refine goT ?_ | exact goTc | skip))
      refine w_loop (fun m vs h => ∃ (k : Nat) (x1 x2 x3 x4 x5 : AVal), m = C - k ∧ k ≤ C ∧ (∀ i, i < k → chainOk ps p i = true) ∧ vs = [.sl (ps.map partV) .none, .str [], .int .i64 0, .bool false, .ptr 0 0, .int .i64 (C : Int), .str (textOf ps k), x1, x2, x3, .sl ((ps.take C).map partV) .none, .int .i64 (C : Int), .int .i64 (k : Int), x4, x5] ∧ ∃ S a, h.get 0 = some (.row true S a [.int .i64 (p.number : Int), .int .i64 (p.part : Int), .int .i64 (p.left : Int), .str p.pay, .bool true])) C
        ⟨0, _, _, _, _, _, rfl, by omega, fun i hi => by omega, rfl, ⟨_, _, rfl⟩⟩ ?_
      · rintro m vs h ⟨k, x1, x2, x3, x4, x5, rfl, hk, hch, rfl, S, a, g0⟩
        by_cases hkC : k < C
        · have ntk : nth (ps.take C) k = nth ps k := nth_take hkC
          have hm := hp _ (nth_mem (show k < ps.length by omega))
          have hts := textOf_succ ps (show k < ps.length by omega)
          have htl := textOf_len ps hp k
          cases hq : nth ps k with
          | none =>
            have hcc : record ps = none := by
              rw [hr, if_neg]
              simp only [Bool.and_eq_true, decide_eq_true_eq, List.all_eq_true, List.mem_range]
              intro q
              have := q.2.2 k hkC
              rw [chainOk, List.getElem?_eq_getElem (by omega), ← nth_eq (by omega), hq] at this
              simp at this
            rw [hcc]
            replace fx := aI @tkl (aI @ntk (aI @hq (aI @partV_none @g0)))
            (first | refine go ?_ | exact goC | skip); repeat' (first | refine gP ?_ | exact gPc | refine gN ?_ | exact gNc | (refine gI ?_ ?_ <;> intro hyp <;> first | refine goF ?_ | exact goFc | refine goT ?_ | exact goTc | skip))
            rfl
          | some q =>
            obtain ⟨m1, m2, m3, m4, m5⟩ := hm q hq
            rw [hq] at hts
            have l0 := get_lt g0
            have bad : ¬ (q.number = p.number ∧ q.part = k ∧ q.left + 48 * k = p.left) → record ps = none := by
              intro hn
              rw [hr, if_neg]
              simp only [Bool.and_eq_true, decide_eq_true_eq, List.all_eq_true, List.mem_range]
              intro q'
              have := q'.2.2 k hkC
              rw [chainOk, List.getElem?_eq_getElem (by omega), ← nth_eq (by omega), hq] at this
              simp only [decide_eq_true_eq] at this
              exact hn this
            have gd : q.number = p.number ∧ q.part = k ∧ q.left + 48 * k = p.left → chainOk ps p k = true := by
              intro hn
              rw [chainOk, List.getElem?_eq_getElem (by omega), ← nth_eq (by omega), hq]
              simp only [decide_eq_true_eq]
              exact hn
            have hap : (textOf ps k ++ q.pay) = textOf ps (k + 1) := hts.symm
            replace fx := aI @tkl (aI @ntk (aI @hq (aI @partV_some @g0)))
            (first | refine go ?_ | exact goC | skip); repeat' (first | refine gP ?_ | exact gPc | refine gN ?_ | exact gNc | (refine gI ?_ ?_ <;> intro hyp <;> first | refine goF ?_ | exact goFc | refine goT ?_ | exact goTc | skip))
            all_goals first
              | (rw [bad (by omega)]; rfl)
              | skip
            rw [hap]
            refine lp_n ⟨_, by omega, k + 1, _, _, _, _, _, rfl, by omega, fun i hi => ?_, by push_cast; rfl, ⟨_, _, get_push_old g0⟩⟩
            by_cases e : i = k
            · rw [e]; exact gd (by omega)
            · exact hch i (by omega)
        · have e : k = C := by omega
          subst e
          have hcc : record ps = some (p.number, k, textOf ps k) := by
            rw [hr, if_pos]
            simp only [Bool.and_eq_true, decide_eq_true_eq, List.all_eq_true, List.mem_range]
            exact ⟨q1, q2, hch⟩
          rw [hcc]
          replace fx := Dum_eq
          (first | refine go ?_ | exact goC | skip); repeat' (first | refine gP ?_ | exact gPc | refine gN ?_ | exact gNc | (refine gI ?_ ?_ <;> intro hyp <;> first | refine goF ?_ | exact goFc | refine goT ?_ | exact goTc | skip))
          rfl
    · have : record ps = none := by
        rw [hr, if_neg]
        simp only [Bool.and_eq_true, decide_eq_true_eq]
        exact fun q => hq ⟨q.1, q.2.1⟩
      rw [this]
      replace fx := aI @h0 (aI @partV_some @hc)
      (first | refine go ?_ | exact goC | skip); repeat' (first | refine gP ?_ | exact gPc | refine gN ?_ | exact gNc | (refine gI ?_ ?_ <;> intro hyp <;> first | refine goF ?_ | exact goFc | refine goT ?_ | exact goTc | skip))
      all_goals rfl
def IdxV (l : List Int) (n : Int) (v : AVal) : Prop := ∃ r : Int, v = .int .i64 r ∧ -1 ≤ r ∧ r ≤ 1000000 ∧ (0 ≤ r ↔ n ∈ l)
theorem index_v (l : List Int) (n : Int) (hl : l.length ≤ 1000000) (t : Tok) (ht : Pt t) : ∃ r : Int, -1 ≤ r ∧ r ≤ 1000000 ∧ (0 ≤ r ↔ n ∈ l) ∧ PV F 78 [.sl (l.map (.int .i64)) t, .int .i64 n] = some (.int .i64 r) := by
  have key : CV F 78 [.sl (l.map (.int .i64)) t, .int .i64 n] Heap.empty (fun v _ => IdxV l n v) := by
    refine CV_wp (fn := c78) rfl ?_
    dsimp only [c78]
    replace fx := Dum_eq
    (first | refine go ?_ | exact goC | skip); repeat' (first | refine gP ?_ | exact gPc | refine gN ?_ | exact gNc | (refine gI ?_ ?_ <;> intro hyp <;> first | refine goF ?_ | exact goFc | refine goT ?_ | exact goTc | skip))
    refine w_loop (fun m vs h => ∃ (k : Nat) (x1 x2 x3 x4 : AVal), m = l.length - k ∧ k ≤ l.length ∧ (∀ i, i < k → nth l i ≠ n) ∧ vs = [.sl (l.map (.int .i64)) t, .int .i64 n, x1, x2, .int .i64 (l.length : Int), .int .i64 (k : Int), x3, x4]) l.length
      ⟨0, _, _, _, _, rfl, by omega, fun i hi => by omega, rfl⟩ ?_
    rintro m vs h ⟨k, x1, x2, x3, x4, rfl, hk, hz, rfl⟩
    by_cases hks : k < l.length
    · have hm := nth_mem hks
      by_cases h0 : nth l k = n
      · replace fx := @h0
        (first | refine go ?_ | exact goC | skip); repeat' (first | refine gP ?_ | exact gPc | refine gN ?_ | exact gNc | (refine gI ?_ ?_ <;> intro hyp <;> first | refine goF ?_ | exact goFc | refine goT ?_ | exact goTc | skip))
        exact ⟨_, rfl, by omega, by omega, by rw [← h0]; simpa using hm⟩
      · have h0' : ¬ n = nth l k := fun q => h0 q.symm
        replace fx := @h0'
        (first | refine go ?_ | exact goC | skip); repeat' (first | refine gP ?_ | exact gPc | refine gN ?_ | exact gNc | (refine gI ?_ ?_ <;> intro hyp <;> first | refine goF ?_ | exact goFc | refine goT ?_ | exact goTc | skip))
        refine lp_n ⟨_, by omega, k + 1, _, _, _, _, rfl, by omega, fun i hi => ?_, by push_cast; rfl⟩
        by_cases e : i = k
        · rw [e]; exact h0
        · exact hz i (by omega)
    · replace fx := Dum_eq
      (first | refine go ?_ | exact goC | skip); repeat' (first | refine gP ?_ | exact gPc | refine gN ?_ | exact gNc | (refine gI ?_ ?_ <;> intro hyp <;> first | refine goF ?_ | exact goFc | refine goT ?_ | exact goTc | skip))
      refine ⟨_, rfl, by omega, by omega, ?_⟩
      have : ¬ n ∈ l := fun hx => by
        obtain ⟨i, hi, q⟩ := List.getElem_of_mem hx
        exact hz i (by omega) (by rw [nth_eq hi, q])
      simp [this]
  obtain ⟨r, h', g, r', rfl, q1, q2, q3⟩ := key
  exact ⟨r', q1, q2, q3, PV_of g rfl⟩
theorem contains_v (l : List Int) (n : Int) (hl : l.length ≤ 1000000) (t : Tok) (ht : Pt t) : PV F 51 [.sl (l.map (.int .i64)) t, .int .i64 n] = some (.bool (decide (n ∈ l))) := by
  obtain ⟨r, q1, q2, q3, hp⟩ := index_v l n hl t ht
  refine PV_wp (fn := c51) rfl ?_
  dsimp only [c51]
  replace fx := aI @hp @q3
  (first | refine go ?_ | exact goC | skip); repeat' (first | refine gP ?_ | exact gPc | refine gN ?_ | exact gNc | (refine gI ?_ ?_ <;> intro hyp <;> first | refine goF ?_ | exact goFc | refine goT ?_ | exact goTc | skip))
end Go.Proofs.YtjofjgflcogklaaGreatDoor

namespace Go.Abs
def GrN {α : Type} (h : Heap) (ty sz : Nat) (l : List α) (tk : Tok) : Prop := (l = [] ∧ tk = .nil) ∨ ∃ id, tk = .own id sz ∧ h.get id = some (.tok ty)
theorem GrN.nil {α : Type} (h : Heap) (ty sz : Nat) : GrN h ty sz ([] : List α) .nil := .inl ⟨rfl, rfl⟩
theorem GrN.lt {α : Type} {h : Heap} {ty sz : Nat} {l : List α} {tk : Tok} (g : GrN h ty sz l tk) {i s : Nat} (e : tk = .own i s) : i < h.next := by
  rcases g with ⟨_, rfl⟩ | ⟨id, rfl, g⟩
  · simp at e
  · simp only [Tok.own.injEq] at e; rw [← e.1]; exact get_lt g
theorem GrN.keep {α : Type} {h h' : Heap} {ty sz : Nat} {l : List α} {tk : Tok} (g : GrN h ty sz l tk) (k : ∀ i, h.get i = some (.tok ty) → (∃ s, tk = .own i s) → h'.get i = some (.tok ty)) : GrN h' ty sz l tk := by
  rcases g with g | ⟨id, rfl, g⟩
  · exact .inl g
  · exact .inr ⟨id, rfl, k id g ⟨_, rfl⟩⟩
theorem GrN.fr {α : Type} {S : Nat → Prop} {h h' : Heap} {ty sz : Nat} {l : List α} {tk : Tok} (g : GrN h ty sz l tk) (f : Fr S h h') (hS : ∀ i s, tk = .own i s → ¬ S i) : GrN h' ty sz l tk :=
  g.keep fun i hg ⟨s, e⟩ => f.get hg (hS i s e)
theorem append_N {α : Type} [Inhabited α] {f : α → AVal} {sz : Nat} {h : Heap} {ty bytes : Nat} {ag : Bool} {l : List α} {tk : Tok} {y : AVal} {ys : List α} (hf : ∀ x, (f x).cells.length = sz) (hm : ∀ x, mk ag (f x).cells = some (f x)) (hs : ∀ x, stripL (f x).cells = some (f x).cells)
    (hy : lenA y = some ys.length) (hn : elemsA h sz y = some (flat (ys.map f))) (hg : GrN h ty sz l tk) (hlen : l.length + ys.length ≤ 1000000) (hb : bytes ≤ 10000) (h0 : 0 < sz) (h1 : sz < 1000000) (hne : ys ≠ []) :
    ∃ h', appendA false ty bytes sz ag (.sl (l.map f) tk) y h = some (.sl ((l ++ ys).map f) (.own h.next sz), h') ∧ h'.next = h.next + 1 ∧ h'.get h.next = some (.tok ty) ∧ (∀ j, j < h.next → (∀ i s, tk = .own i s → j ≠ i) → h'.get j = h.get j) :=
  append_own hf hm hs hy hn (by rcases hg with ⟨_, e⟩ | g; exact .inl e; exact .inr g) (by rcases hg with ⟨e, _⟩ | ⟨i, e, _⟩; exact fun _ => e; rw [e]; simp) hlen hb h0 h1 hne
theorem GrN.ne {α : Type} {h : Heap} {ty sz : Nat} {l : List α} {tk : Tok} (g : GrN h ty sz l tk) {j : Nat} {o : Obj} (hj : h.get j = some o) (ho : o ≠ .tok ty) : ∀ i s, tk = .own i s → j ≠ i := by
  rintro i s e rfl
  rcases g with ⟨_, rfl⟩ | ⟨id, rfl, g⟩
  · simp at e
  · simp only [Tok.own.injEq] at e; rw [e.1, hj] at g; exact ho (Option.some.inj g)
theorem GrN.strip {α : Type} {h : Heap} {ty sz : Nat} {l : List α} {tk : Tok} (g : GrN h ty sz l tk) (f : α → AVal) : ∃ u, Pt u ∧ Go.Abs.strip (.sl (l.map f) tk) = some (.sl (l.map f) u) := by
  rcases g with ⟨_, rfl⟩ | ⟨id, rfl, _⟩
  · exact ⟨.nil, .inr rfl, rfl⟩
  · exact ⟨.none, .inl rfl, rfl⟩
theorem slice_o_a {α : Type} [Inhabited α] (f : α → AVal) (l : List α) {sz i s : Nat} (k : IntKind) (a : Int) (h0 : 0 ≤ a) (h2 : a ≤ l.length) (hf : ∀ x, (f x).cells.length = sz) : sliceA sz (.sl (l.map f) (.own i s)) (some (.int k a)) none = some (.sl ((l.drop a.toNat).map f) .none) := by
  have ha : boundA (some (.int k a)) 0 l.length = some a.toNat := boundA_int k a _ _ h0 h2
  simp only [sliceA, List.length_map, ha, boundA_none]
  rw [if_pos]
  · rw [← List.map_drop, ← List.map_take, List.take_of_length_le (by simp)]; rfl
  · refine ⟨fun x hx => ?_, by simp⟩
    cases l with
    | nil => simp at hx
    | cons y l => simp at hx; subst hx; exact hf y
end Go.Abs
namespace Go.Proofs.YtjofjgflcogklaaGreatDoor
open Go Go.Abs Go.Sha Go.Jn
def conts (D : Dsk) : List Bs := D.s.map fun x => (x.next.getD x.text).1
theorem conts_len (D : Dsk) : (conts D).length = D.s.length := by simp [conts]
theorem nth_conts (D : Dsk) {k : Nat} (hk : k < D.s.length) : nth (conts D) k = ((nth D.s k).next.getD (nth D.s k).text).1 := by
  rw [nth_eq (by rw [conts_len]; exact hk), nth_eq hk]; simp [conts]
theorem conts_64 (D : Dsk) {k : Nat} (hk : k < D.s.length) : (nth (conts D) k).length = 64 := by
  rw [nth_conts D hk]; exact ((nth D.s k).next.getD (nth D.s k).text).2
theorem read_conts (D : Dsk) (ho : D.off = false) {k : Nat} (hk : k < D.s.length) : D.read (k : Int) = (nth (conts D) k, 0) := by
  rw [Dsk.read, ho, if_neg (by simp), if_neg (by omega), nth_conts D hk]; simp
theorem read_off (D : Dsk) (ho : D.off = true) (k : Int) : D.read k = ([], 21) := by rw [Dsk.read, ho, if_pos rfl]
structure JT (h : Heap) (t1 t2 t3 : Tok) (J : Jst) : Prop where
  g1 : GrN h 3 1 J.nums t1
  g2 : GrN h 3 1 J.bad t2
  g3 : GrN h 9 1 J.texts t3
  ne : ∀ i s s', t1 = .own i s → t2 ≠ .own i s'
def TS (t1 t2 t3 : Tok) (i : Nat) : Prop := (∃ s, t1 = .own i s) ∨ (∃ s, t2 = .own i s) ∨ ∃ s, t3 = .own i s
theorem JT.fr {S : Nat → Prop} {h h' : Heap} {t1 t2 t3 : Tok} {J : Jst} (g : JT h t1 t2 t3 J) (f : Fr S h h') (hS : ∀ i, TS t1 t2 t3 i → ¬ S i) : JT h' t1 t2 t3 J :=
  ⟨g.g1.fr f fun i s e => hS i (.inl ⟨s, e⟩), g.g2.fr f fun i s e => hS i (.inr (.inl ⟨s, e⟩)), g.g3.fr f fun i s e => hS i (.inr (.inr ⟨s, e⟩)), g.ne⟩
theorem JT.lt {h : Heap} {t1 t2 t3 : Tok} {J : Jst} (g : JT h t1 t2 t3 J) {i : Nat} (q : TS t1 t2 t3 i) : i < h.next := by
  rcases q with ⟨s, e⟩ | ⟨s, e⟩ | ⟨s, e⟩
  · exact g.g1.lt e
  · exact g.g2.lt e
  · exact g.g3.lt e
structure PJ (h : Heap) (j d : Nat) (t1 t2 t3 : Tok) (J : Jst) : Prop where
  row : h.get j = some (.row true 0 true [.ptr d 0, .sl (J.nums.map intN) t1, .sl (J.bad.map intN) t2, .sl (J.texts.map strV) t3, .int .i64 (J.next : Int), .int .i64 (J.fin : Int), .bool J.closed])
  tk : JT h t1 t2 t3 J
structure RJ (h : Heap) (j r : Nat) (t1 t2 t3 : Tok) (J : Jst) : Prop where
  row : h.get j = some (.row true 0 true [.ptr r 0, .sl (J.nums.map intN) t1, .sl (J.texts.map strV) t3, .sl (J.bad.map intN) t2, .int .i64 (J.next : Int), .int .i64 (J.fin : Int), .bool J.closed])
  tk : JT h t1 t2 t3 J
def JS (j : Nat) (t1 t2 t3 : Tok) (i : Nat) : Prop := i = j ∨ TS t1 t2 t3 i
theorem PJ.fr {S : Nat → Prop} {h h' : Heap} {j d : Nat} {t1 t2 t3 : Tok} {J : Jst} (g : PJ h j d t1 t2 t3 J) (f : Fr S h h') (hS : ∀ i, JS j t1 t2 t3 i → ¬ S i) : PJ h' j d t1 t2 t3 J :=
  ⟨f.get g.row (hS _ (.inl rfl)), g.tk.fr f fun i q => hS i (.inr q)⟩
theorem RJ.fr {S : Nat → Prop} {h h' : Heap} {j d : Nat} {t1 t2 t3 : Tok} {J : Jst} (g : RJ h j d t1 t2 t3 J) (f : Fr S h h') (hS : ∀ i, JS j t1 t2 t3 i → ¬ S i) : RJ h' j d t1 t2 t3 J :=
  ⟨f.get g.row (hS _ (.inl rfl)), g.tk.fr f fun i q => hS i (.inr q)⟩
theorem PJ.lt {h : Heap} {j d : Nat} {t1 t2 t3 : Tok} {J : Jst} (g : PJ h j d t1 t2 t3 J) {i : Nat} (q : JS j t1 t2 t3 i) : i < h.next := by
  rcases q with rfl | q
  · exact get_lt g.row
  · exact g.tk.lt q
theorem RJ.lt {h : Heap} {j d : Nat} {t1 t2 t3 : Tok} {J : Jst} (g : RJ h j d t1 t2 t3 J) {i : Nat} (q : JS j t1 t2 t3 i) : i < h.next := by
  rcases q with rfl | q
  · exact get_lt g.row
  · exact g.tk.lt q
theorem heads_recs (l : List Bs) (k : Nat) : (heads l k).recs = [] := (heads_next l k).2.2.2.2
theorem heads_nums (l : List Bs) (k : Nat) : (heads l k).nums = [] := by rw [Jst.nums, heads_recs]; rfl
theorem heads_texts (l : List Bs) (k : Nat) : (heads l k).texts = [] := by rw [Jst.texts, heads_recs]; rfl
theorem heads_bad (l : List Bs) (k : Nat) : (heads l k).bad.length ≤ k ∧ ∀ i ∈ (heads l k).bad, i < k := by
  induction k with
  | zero => simp [heads]
  | succ k ih =>
    simp only [heads, scanSec]
    split
    · refine ⟨by simp; omega, fun i hi => ?_⟩
      rcases List.mem_append.1 hi with h | h
      · have := ih.2 i h; omega
      · simp at h; omega
    · exact ⟨by omega, fun i hi => by have := ih.2 i hi; omega⟩
theorem blank_iff (s : Bs) (h : s.length = 64) : s = List.replicate 64 0 ↔ Jn.blank s = true := by
  rw [Jn.blank, List.all_eq_true]
  constructor
  · intro e x hx
    rw [e] at hx
    simp [(List.mem_replicate.1 hx).2]
  · intro e
    refine List.ext_getElem (by rw [h]; simp) fun i h1 h2 => ?_
    rw [List.getElem_replicate]
    simpa using e _ (List.getElem_mem h1)
theorem intN_len (n : Nat) : (intN n).cells.length = 1 := rfl
theorem strV_len (s : Bs) : (strV s).cells.length = 1 := rfl
theorem partV_strip (o : Option Prt) : stripL (partV o).cells = some (partV o).cells := by cases o <;> rfl
theorem partV_mk (o : Option Prt) : mk true (partV o).cells = some (partV o) := by cases o <;> rfl
theorem contains_n (l : List Nat) (n : Nat) (hl : l.length ≤ 1000000) (t : Tok) (ht : Pt t) : PV F 51 [.sl (l.map intN) t, .int .i64 (n : Int)] = some (.bool (decide (n ∈ l))) := by
  have := contains_v (l.map fun i : Nat => (i : Int)) n (by simpa using hl) t ht
  rw [List.map_map] at this
  rw [show l.map intN = l.map (AVal.int .i64 ∘ fun i : Nat => (i : Int)) from rfl, this]
  congr 2
  have : (n : Int) ∈ l.map (fun i : Nat => (i : Int)) ↔ n ∈ l := by
    rw [List.mem_map]
    exact ⟨fun ⟨x, hx, e⟩ => by rwa [← Int.ofNat.inj e], fun hx => ⟨n, hx, rfl⟩⟩
  exact decide_eq_decide.2 this
theorem partV_facts (o : Option Prt) : (partV o).cells.length = 5 ∧ (partV o).cells.all AVal.one = true ∧ ((partV o).cells.drop 4).take 1 = [.bool o.isSome] ∧ (partV o).cells.take 1 = [.int .i64 (numO o : Int)] ∧ True ∧
    ∀ H, litA 0 94 1 5 true [.int .i64 0, .int .i64 0, .int .i64 0, .str [], .bool false] (some (partV o).cells) H = some (.sl (([o] : List (Option Prt)).map partV) .none, H) := by
  cases o with
  | none => exact ⟨rfl, rfl, rfl, rfl, trivial, fun H => lit_none rfl rfl rfl rfl⟩
  | some q => exact ⟨rfl, rfl, rfl, rfl, trivial, fun H => lit_none rfl rfl rfl rfl⟩
theorem record_facts {ps : List (Option Prt)} (hp : ∀ o ∈ ps, POk o) {q nm c : Nat} {tx : Bs} (h : record (ps.drop q) = some (nm, c, tx)) : 1 ≤ c ∧ q + c ≤ ps.length ∧ tx.length ≤ 8016 ∧ ∃ p, nth ps q = some p ∧ p.number = nm := by
  have hq : q < ps.length := by
    apply Classical.byContradiction
    intro hn
    rw [List.drop_eq_nil_of_le (by omega)] at h
    simp [record] at h
  rw [List.drop_eq_getElem_cons hq] at h
  cases ho : ps[q] with
  | none => rw [ho] at h; simp [record] at h
  | some p =>
    rw [ho] at h
    have hl := hp (some p) (by rw [← ho]; exact List.getElem_mem hq) p rfl
    have hc1 := count_pos p.left hl.1
    have hc2 := count_le p.left
    simp only [record] at h
    split at h
    · rename_i hcond
      simp only [Option.some.injEq, Prod.mk.injEq] at h
      obtain ⟨e1, e2, e3⟩ := h
      simp only [Bool.and_eq_true, decide_eq_true_eq, List.length_cons, List.length_drop] at hcond
      refine ⟨by omega, by omega, ?_, p, by rw [nth_eq hq, ho], e1⟩
      rw [← e3]
      have := textOf_len (some p :: ps.drop (q + 1)) (fun o ho' => by
        rcases List.mem_cons.1 ho' with rfl | ho'
        · exact hp _ (by rw [← ho]; exact List.getElem_mem hq)
        · exact hp _ (List.mem_of_mem_drop ho')) (count p.left)
      omega
    · simp at h
variable {h : Heap} {d b p w : Nat} {D : Dsk}
theorem openOff_c (P : PD h d b p w D) (ho : D.off = true) : CV F 12 [.ptr d 0] h (fun v h' => v = .tup [.nilptr, .int .i64 21] ∧ PD h' d b p w D ∧ Fr (fun _ => False) h h') := by
  have hpos := P.ok.pos
  have hlen := P.ok.len
  refine CV_wp (fn := c12) rfl ?_
  dsimp only [c12]
  have f1 : ∀ o, Fr (fun _ => False) h (h.push o) := fun o => (Fr.refl _ _).push o
  have P1 : ∀ o, PD (h.push o) d b p w D := fun o => P.fr (f1 o) (fun _ _ q => q)
  have L := fun o => cv_rw (len_c (P1 o))
  have r0 := read_off D ho
  replace fx := @L
  (first | refine go ?_ | exact goC | skip); repeat' (first | refine gP ?_ | exact gPc | refine gN ?_ | exact gNc | (refine gI ?_ ?_ <;> intro hyp <;> first | refine goF ?_ | exact goFc | refine goT ?_ | exact goTc | skip))
  refine w_loop_once ?_
  replace fx := Dum_eq
  (first | refine go ?_ | exact goC | skip); repeat' (first | refine gP ?_ | exact gPc | refine gN ?_ | exact gNc | (refine gI ?_ ?_ <;> intro hyp <;> first | refine goF ?_ | exact goFc | refine goT ?_ | exact goTc | skip))
  refine CV_mono (read_c (P1 _) _) ?_
  rintro v h2 ⟨rfl, P2, f2⟩
  replace fx := @r0
  (first | refine go ?_ | exact goC | skip); repeat' (first | refine gP ?_ | exact gPc | refine gN ?_ | exact gNc | (refine gI ?_ ?_ <;> intro hyp <;> first | refine goF ?_ | exact goFc | refine goT ?_ | exact goTc | skip))
  exact ⟨P2, (f1 _).trans f2⟩
theorem open_c (P : PD h d b p w D) (ho : D.off = false) : CV F 12 [.ptr d 0] h (fun v h' => ∃ j t1 t2 t3, v = .tup [.ptr j 0, .int .i64 0] ∧ PJ h' j d t1 t2 t3 (openJ (conts D)) ∧ PD h' d b p w D ∧ Fr (fun _ => False) h h' ∧ ∀ i, JS j t1 t2 t3 i → h.next ≤ i) := by
  have hpos := P.ok.pos
  have hlen := P.ok.len
  refine CV_wp (fn := c12) rfl ?_
  dsimp only [c12]
  rw [ck64, z64]
  have f1 : ∀ o, Fr (fun _ => False) h (h.push o) := fun o => (Fr.refl _ _).push o
  have P1 : ∀ o, PD (h.push o) d b p w D := fun o => P.fr (f1 o) (fun _ _ q => q)
  have L := fun o => cv_rw (len_c (P1 o))
  have cl := conts_len D
  obtain ⟨cs, hcs⟩ : ∃ cs, cs = conts D := ⟨_, rfl⟩
  obtain ⟨ps, hps⟩ : ∃ ps, ps = cs.map unpack := ⟨_, rfl⟩
  have pl : ps.length = D.s.length := by rw [hps, List.length_map, hcs, cl]
  replace fx := @L
  (first | refine go ?_ | exact goC | skip); repeat' (first | refine gP ?_ | exact gPc | refine gN ?_ | exact gNc | (refine gI ?_ ?_ <;> intro hyp <;> first | refine goF ?_ | exact goFc | refine goT ?_ | exact goTc | skip))
  obtain ⟨j, hj⟩ : ∃ j, j = h.next := ⟨_, rfl⟩
  rw [← hj]
  refine w_loop (fun m vs h' => ∃ (k : Nat) (tk t2 : Tok) (x1 x2 x3 x4 x5 x6 x7 x8 x9 x10 x11 x12 x13 x14 x15 : AVal), m = D.s.length - k ∧ k ≤ D.s.length ∧ vs = [.ptr d 0, x1, x2, .ptr j 0, .sl ((ps.take k).map partV) tk, x3, x4, x5, x6, x7, x8, x9, x10, x11, .int .i64 (D.s.length : Int), .int .i64 (k : Int), x12, x13, x14, x15, .tup [], .tup [], .tup []] ∧
      PJ h' j d .nil t2 .nil (heads cs k) ∧ GrN h' 94 5 (ps.take k) tk ∧ PD h' d b p w D ∧ Fr (fun _ => False) h h' ∧ (∀ i s, tk = .own i s → h.next ≤ i) ∧ (∀ i s, t2 = .own i s → h.next ≤ i)) D.s.length
    ⟨0, .nil, .nil, _, _, _, _, _, _, _, _, _, _, _, _, _, _, _, rfl, by omega, rfl, ⟨get_push_eq hj, ⟨GrN.nil _ _ _, GrN.nil _ _ _, GrN.nil _ _ _, by simp⟩⟩, GrN.nil _ _ _, P1 _, f1 _, by simp, by simp⟩ ?_
  rintro m vs h1 ⟨k, tk, t2, x1, x2, x3, x4, x5, x6, x7, x8, x9, x10, x11, x12, x13, x14, x15, rfl, hk, rfl, PJ1, G1, P2, f2, u1, u2⟩
  by_cases hkn : k < D.s.length
  · replace fx := Dum_eq
    (first | refine go ?_ | exact goC | skip); repeat' (first | refine gP ?_ | exact gPc | refine gN ?_ | exact gNc | (refine gI ?_ ?_ <;> intro hyp <;> first | refine goF ?_ | exact goFc | refine goT ?_ | exact goTc | skip))
    refine CV_mono (read_c P2 _) ?_
    rintro v h2 ⟨rfl, P3, f3⟩
    have hread := read_conts D ho hkn
    have s64 := conts_64 D hkn
    rw [← hcs] at hread s64
    have hpk : nth ps k = unpack (nth cs k) := by
      rw [nth_eq (by omega), nth_eq (by rw [hcs, cl]; exact hkn)]; simp [hps]
    have htk : ps.take (k + 1) = ps.take k ++ [nth ps k] := by
      rw [List.take_succ_eq_append_getElem (by omega), nth_eq (by omega)]
    have PJ2 := PJ1.fr f3 (fun _ _ q => q)
    have G2 := G1.fr f3 (fun _ _ _ q => q)
    have f23 := f2.trans f3
    have hup := unpack_v (nth cs k) (by omega)
    rw [hpk] at htk
    have hok := unpack_ok (nth cs k)
    obtain ⟨hn1, hn2, hn3, hn4, hn5⟩ := heads_next cs k
    have hJ : heads cs (k + 1) = scanSec (heads cs k) k (nth cs k) := rfl
    obtain ⟨J, hJJ⟩ : ∃ J, J = heads cs k := ⟨_, rfl⟩
    obtain ⟨J', hJJ'⟩ : ∃ J', J' = heads cs (k + 1) := ⟨_, rfl⟩
    have jn := heads_nums cs k
    have jt := heads_texts cs k
    have jn' := heads_nums cs (k + 1)
    have jt' := heads_texts cs (k + 1)
    have jb := (heads_bad cs k).1
    have hbi := blank_iff (nth cs k) s64
    have hr1 : (D.read (k : Int)).1 = nth cs k := by rw [hread]
    have hr2 : (D.read (k : Int)).2 = 0 := by rw [hread]
    obtain ⟨s, hs⟩ : ∃ s, s = nth cs k := ⟨_, rfl⟩
    rw [← hJJ] at hn1 hn2 hn3 hn4 hn5 hJ jn jt jb PJ2
    rw [← hJJ'] at hJ jn' jt'
    rw [← hs] at hr1 s64 htk hup hok hJ hbi
    have tk64 : s.take 64 = s := List.take_of_length_le (by omega)
    have ceq : cellsEq cks (s.map byteV) zerosV = some (decide (s = List.replicate 64 0)) := by
      have := cells_bytes s (List.replicate 64 0) (by rw [s64]; simp)
      rw [s64] at this
      exact this
    obtain ⟨prow, ptk⟩ := PJ2
    obtain ⟨o, ho⟩ : ∃ o, o = unpack s := ⟨_, rfl⟩
    rw [← ho] at hup htk hok
    obtain ⟨c1, c2, c3, c4, c5, c6⟩ := partV_facts o
    obtain ⟨C, hC⟩ : ∃ C, C = (partV o).cells := ⟨_, rfl⟩
    have lit5 : ∀ H, litA 0 94 1 5 true [.int .i64 0, .int .i64 0, .int .i64 0, .str [], .bool false] (some C) H = some (.sl (([o] : List (Option Prt)).map partV) .none, H) := by
      intro H; rw [hC]; exact c6 H
    rw [← hC] at c1 c2 c3 c4
    have hag : partV o = .agg C := by rw [hC]; cases o <;> rfl
    have hsc : setCells [.int .i64 0, .int .i64 0, .int .i64 0, .str [], .bool false] 0 C = C := setCells_all _ _ (by rw [c1]; rfl)
    have ctk : C.take 5 = C := List.take_of_length_le (by omega)
    replace fx := aI @hr1 (aI @hr2 (aI @hup (aI @hag (aI @c1 (aI @c2 (aI @hsc (aI @ctk @lit5)))))))
    (first | refine go ?_ | exact goC | skip); repeat' (first | refine gP ?_ | exact gPc | refine gN ?_ | exact gNc | (refine gI ?_ ?_ <;> intro hyp <;> first | refine goF ?_ | exact goFc | refine goT ?_ | exact goTc | skip))
    obtain ⟨R, hR⟩ : ∃ R, R = Obj.row true (typed 94) true C := ⟨_, rfl⟩
    obtain ⟨h3, hh3⟩ : ∃ h3, h3 = h2.push R := ⟨_, rfl⟩
    have f4 : Fr (fun _ => False) h2 h3 := by rw [hh3]; exact (Fr.refl _ _).push _
    have n3 : h3.next = h2.next + 1 := by rw [hh3]; rfl
    have a3 : h3.get h2.next = some R := by rw [hh3]; exact get_push_eq rfl
    rw [← hR, ← hag, ← hh3]
    have row3 := f4.get prow (fun q => q)
    have G3 := G2.fr f4 (fun _ _ _ q => q)
    have T3 := ptk.fr f4 (fun _ _ q => q)
    have P4 := P3.fr f4 (fun _ _ q => q)
    obtain ⟨h4, e4, n4, k4, o4⟩ := append_N (bytes := 48) (y := .sl ([o].map partV) .none) (ys := [o]) partV_len partV_mk partV_strip lenA_sl (elems_sl partV_len) G3 (by rw [List.length_take]; simp; omega) (by omega) (by omega) (by omega) (by simp)
    rw [← htk] at e4
    simp only [List.map_cons, List.map_nil] at e4
    have l3 := get_lt row3
    have row4 : h4.get j = _ := (o4 j (by omega) (G3.ne row3 (by simp))).trans row3
    have a4 : h4.get h2.next = some R := (o4 _ (by omega) (G3.ne a3 (by rw [hR]; simp))).trans a3
    rw [hR] at a4
    have G4 : GrN h4 94 5 (ps.take (k + 1)) (.own h3.next 5) := .inr ⟨_, rfl, k4⟩
    have g4 : GrN h4 3 1 J.bad t2 := T3.g2.keep fun i hg hs' => (o4 i (get_lt hg) (G3.ne hg (by simp))).trans hg
    have fr4 : Fr (fun i => ∃ s, tk = .own i s) h3 h4 := ⟨by omega, fun i hi hn => o4 i hi (fun i' s' e' => by rintro rfl; exact hn ⟨s', e'⟩)⟩
    have P5 : PD h4 d b p w D := P4.fr fr4 (fun i hi => by
      rintro ⟨s', e'⟩
      obtain ⟨_, ⟨_, _, q1⟩, q2, ⟨_, _, q3, _⟩, ⟨_, _, q4, _⟩, _⟩ := P4
      rcases hi with rfl | rfl | rfl | rfl
      · exact G3.ne q1 (by simp) _ _ e' rfl
      · exact G3.ne q2 (by simp) _ _ e' rfl
      · exact G3.ne q3 (by simp) _ _ e' rfl
      · exact G3.ne q4 (by simp) _ _ e' rfl)
    have F4 : Fr (fun _ => False) h h4 := ⟨by have := f23.1; have := f4.1; omega, fun i hi _ => by
      have hlt := f23.1
      rw [fr4.2 i (by have := f4.1; omega) (fun ⟨s', e'⟩ => by have := u1 i s' e'; omega), f4.2 i (by omega) (fun q => q)]; exact f23.2 i hi (fun q => q)⟩
    have stk : (s.map byteV).take 64 = s.map byteV := List.take_of_length_le (by rw [List.length_map]; omega)
    have hnO : numO o ≤ 4096 := by
      cases o with
      | none => simp [numO]
      | some q => exact (hok q rfl).2.2.1
    have mxn : max (J.next : Int) ((numO o : Int) + 1) = ((max J.next (numO o + 1) : Nat) : Int) := by omega
    have hb' : J'.bad = if o.isNone && !Jn.blank s then J.bad ++ [k] else J.bad := by rw [hJ, ho]; rfl
    have hf' : J'.fin = if Jn.blank s then J.fin else k + 1 := by rw [hJ]; rfl
    have hx' : J'.next = max J.next (numO o + 1) := by rw [hJ, ho]; rfl
    have hc' : J'.closed = false := by rw [hJ]; exact hn4
    rw [jn, jt, hn4] at row4
    have ho3 : o.isNone = !o.isSome := by cases o <;> rfl
    rw [ho3] at hb'
    have ljr := get_lt row4
    have ja : j ≠ h2.next := by have := get_lt prow; omega
    have lP := P.lt
    have fin : ∀ (hf : Heap) (t2' : Tok), h4.next ≤ hf.next → (∀ i, i < h4.next → i ≠ j → (∀ i' s', t2 = .own i' s' → i ≠ i') → hf.get i = h4.get i) →
        hf.get j = some (.row true 0 true [.ptr d 0, .sl [] .nil, .sl (J'.bad.map intN) t2', .sl [] .nil, .int .i64 (J'.next : Int), .int .i64 (J'.fin : Int), .bool false]) → GrN hf 3 1 J'.bad t2' → (∀ i s, t2' = .own i s → h.next ≤ i) →
        PJ hf j d .nil t2' .nil (heads cs (k + 1)) ∧ GrN hf 94 5 (ps.take (k + 1)) (.own h3.next 5) ∧ PD hf d b p w D ∧ Fr (fun _ => False) h hf ∧ (∀ i s, (Tok.own h3.next 5) = .own i s → h.next ≤ i) ∧ ∀ i s, t2' = .own i s → h.next ≤ i := by
      intro hf t2' q1 q2 q3 q4 q5
      rw [← hJJ']
      have F5 : Fr (fun i => i = j ∨ ∃ s, t2 = .own i s) h4 hf := ⟨q1, fun i hi hn => q2 i hi (fun e => hn (.inl e)) (fun i' s' e e' => hn (.inr ⟨s', by rw [e']; exact e⟩))⟩
      refine ⟨⟨?_, ?_, q4, ?_, by simp⟩, .inr ⟨_, rfl, ?_⟩, P5.fr F5 ?_, ⟨by have := F4.1; omega, fun i hi _ => ?_⟩, ?_, q5⟩
      · rw [jn', jt', hc']; exact q3
      · rw [jn']; exact GrN.nil _ _ _
      · rw [jt']; exact GrN.nil _ _ _
      · rw [q2 _ (get_lt k4) (by omega) (fun i' s' e => g4.ne k4 (by simp) i' s' e)]; exact k4
      · rintro i hi (rfl | ⟨s', e⟩)
        · have := lP _ hi; omega
        · have := lP _ hi; have := u2 _ _ e; omega
      · rw [q2 i (by have := F4.1; omega) (by omega) (fun i' s' e e' => by have := u2 _ _ e; omega)]; exact F4.2 i hi (fun q => q)
      · intro i s' e
        simp only [Tok.own.injEq] at e
        have := f23.1; omega
    have lj4 : ∀ (x : Option Abs.Obj) i, i ≠ j → (h4.put j x).get i = h4.get i := fun x i hi => get_put_ne hi
    have g5 : ∀ x, GrN (h4.put j x) 3 1 J.bad t2 := fun x => g4.keep fun i hg _ => by rw [get_put_ne (by rintro rfl; rw [row4] at hg; simp at hg)]; exact hg
    by_cases hbk : s = List.replicate 64 0
    · rw [hbi.1 hbk] at hb' hf'
      simp only [Bool.not_true, Bool.and_false, Bool.false_eq_true, if_false, if_true] at hb' hf'
      replace fx := aI @e4 (aI @s64 (aI @tk64 (aI @stk (aI @ceq (aI @zerosV_len (aI (eq_true hbk) (aI @row4 (aI @a4 (aI @c1 (aI @c3 (aI @c4 (aI @XW_mnxK (aI @mnx_max @mxn)))))))))))))
      (first | refine go ?_ | exact goC | skip); repeat' (first | refine gP ?_ | exact gPc | refine gN ?_ | exact gNc | (refine gI ?_ ?_ <;> intro hyp <;> first | refine goF ?_ | exact goFc | refine goT ?_ | exact goTc | skip))
      all_goals exact lp_n ⟨_, by omega, k + 1, _, t2, _, _, _, _, _, _, _, _, _, _, _, _, _, _, _, rfl, by omega, by push_cast; rfl, fin _ t2 (Nat.le_of_eq (put_next _ _ _).symm) (fun i _ hi _ => lj4 _ i hi) (by rw [hb', hf', hx']; exact get_put_old row4) (by rw [hb']; exact g5 _) u2⟩
    · rw [Bool.eq_false_iff.2 (fun q => hbk (hbi.2 q))] at hb' hf'
      simp only [Bool.not_false, Bool.and_true, Bool.false_eq_true, if_false] at hb' hf'
      cases hs' : o.isSome with
      | true =>
        rw [hs'] at hb' c3
        simp only [Bool.not_true, Bool.false_eq_true, if_false] at hb'
        have pp : ∀ x y, ((h4.put j (some x)).put j y).get j = y := fun x y => get_put_old (get_put_old row4)
        have g6 : ∀ x y, GrN ((h4.put j x).put j y) 3 1 J.bad t2 := fun x y => g4.keep fun i hg _ => by
          have hne : i ≠ j := by rintro rfl; rw [row4] at hg; simp at hg
          rw [get_put_ne hne, get_put_ne hne]; exact hg
        replace fx := aI @e4 (aI @s64 (aI @tk64 (aI @stk (aI @ceq (aI @zerosV_len (aI (eq_false hbk) (aI @row4 (aI @pp (aI @a4 (aI @c1 (aI @c3 (aI @c4 (aI @XW_mnxK (aI @mnx_max @mxn))))))))))))))
        (first | refine go ?_ | exact goC | skip); repeat' (first | refine gP ?_ | exact gPc | refine gN ?_ | exact gNc | (refine gI ?_ ?_ <;> intro hyp <;> first | refine goF ?_ | exact goFc | refine goT ?_ | exact goTc | skip))
        exact lp_n ⟨_, by omega, k + 1, _, t2, _, _, _, _, _, _, _, _, _, _, _, _, _, _, _, rfl, by omega, by push_cast; rfl, fin _ t2 (Nat.le_of_eq ((put_next _ _ _).trans (put_next _ _ _)).symm) (fun i _ hi _ => (get_put_ne hi).trans (get_put_ne hi)) (by rw [hb', hf', hx', Int.natCast_add]; exact pp _ _) (by rw [hb']; exact g6 _ _) u2⟩
      | false =>
        rw [hs'] at hb' c3
        simp only [Bool.not_false, if_true] at hb'
        have lb : ∀ H, litA 0 3 1 1 false [.int .i64 0] (some [.int .i64 (k : Int)]) H = some (.sl (([k] : List Nat).map intN) .none, H) := fun H => lit_none rfl rfl rfl rfl
        replace fx := aI @e4 (aI @s64 (aI @tk64 (aI @stk (aI @ceq (aI @zerosV_len (aI (eq_false hbk) (aI @row4 (aI @a4 (aI @c1 (aI @c3 (aI @c4 (aI @XW_mnxK (aI @mnx_max (aI @mxn @lb))))))))))))))
        (first | refine go ?_ | exact goC | skip); repeat' (first | refine gP ?_ | exact gPc | refine gN ?_ | exact gNc | (refine gI ?_ ?_ <;> intro hyp <;> first | refine goF ?_ | exact goFc | refine goT ?_ | exact goTc | skip))
        obtain ⟨R1, hR1⟩ : ∃ R1, R1 = Obj.row true 0 true [.ptr d 0, .sl [] .nil, .sl (J.bad.map intN) t2, .sl [] .nil, .int .i64 (J.next : Int), .int .i64 ((k : Int) + 1), .bool false] := ⟨_, rfl⟩
        obtain ⟨h6, e6, n6, k6, o6⟩ := append_N (bytes := 8) (ag := false) (f := intN) (y := .sl ([k].map intN) .none) (ys := [k]) intN_len (fun _ => rfl) (fun _ => rfl) lenA_sl (elems_sl intN_len) (g5 (some R1)) (by simp; omega) (by omega) (by omega) (by omega) (by simp)
        simp only [List.map_cons, List.map_nil] at e6
        rw [put_next] at n6 k6 o6 e6
        have gj : (h4.put j (some R1)).get j = some R1 := get_put_old row4
        have row6 : h6.get j = some R1 := (o6 j ljr ((g5 (some R1)).ne gj (by rw [hR1]; simp))).trans gj
        have a6 : h6.get h2.next = h4.get h2.next := (o6 _ (get_lt a4) ((g5 (some R1)).ne ((get_put_ne (Ne.symm ja)).trans a4) (by simp))).trans (get_put_ne (Ne.symm ja))
        rw [a4] at a6
        rw [← hR1]
        rw [hR1] at row6
        have pp : ∀ x y, ((h6.put j (some x)).put j y).get j = y := fun x y => get_put_old (get_put_old row6)
        replace fx := aI @e6 (aI @row6 (aI @pp (aI @a6 (aI @c1 (aI @c3 (aI @c4 (aI @XW_mnxK (aI @mnx_max @mxn))))))))
        (first | refine go ?_ | exact goC | skip); repeat' (first | refine gP ?_ | exact gPc | refine gN ?_ | exact gNc | (refine gI ?_ ?_ <;> intro hyp <;> first | refine goF ?_ | exact goFc | refine goT ?_ | exact goTc | skip))
        refine lp_n ⟨_, by omega, k + 1, _, .own h4.next 1, _, _, _, _, _, _, _, _, _, _, _, _, _, _, _, rfl, by omega, by push_cast; rfl, fin _ (.own h4.next 1) (by rw [put_next, put_next]; omega) (fun i h1' hi h2' => ((get_put_ne hi).trans (get_put_ne hi)).trans ((o6 i h1' h2').trans (get_put_ne hi))) (by rw [hb', hf', hx', Int.natCast_add]; exact pp _ _) ?_ ?_⟩
        · rw [hb']
          exact .inr ⟨_, rfl, by rw [get_put_ne (by omega), get_put_ne (by omega)]; exact k6⟩
        · intro i s' e
          simp only [Tok.own.injEq] at e
          have := F4.1; omega
  · have e : k = D.s.length := by omega
    subst e
    have ept : ps.take D.s.length = ps := List.take_of_length_le (by omega)
    rw [ept] at G1 ⊢
    obtain ⟨a, rfl, ga⟩ : ∃ a, tk = .own a 5 ∧ h1.get a = some (.tok 94) := by
      rcases G1 with ⟨e, _⟩ | G1
      · rw [e] at pl; simp at pl; omega
      · exact G1
    obtain ⟨J, hJ⟩ : ∃ J, J = heads cs D.s.length := ⟨_, rfl⟩
    have hop : openJ (conts D) = { J with recs := scanS ps 0 [] } := by rw [openJ, ← hcs, ← hps, hcs, cl, ← hcs, hJ]
    have jr := heads_recs cs D.s.length
    rw [← hJ] at PJ1 jr
    have hJ0 : J = { J with recs := [] } := by rw [← jr]
    obtain ⟨bl1, bl2⟩ := heads_next cs D.s.length
    rw [← hJ] at bl1 bl2
    replace fx := Dum_eq
    (first | refine go ?_ | exact goC | skip); repeat' (first | refine gP ?_ | exact gPc | refine gN ?_ | exact gNc | (refine gI ?_ ?_ <;> intro hyp <;> first | refine goF ?_ | exact goFc | refine goT ?_ | exact goTc | skip))
    refine w_loop (fun m vs h' => ∃ (q : Nat) (t1 t3 : Tok) (R : List (Nat × Bs)) (x1 x2 x3 x4 x5 x6 x7 x8 x9 x10 x11 x12 x13 x14 x15 x16 x17 x18 x19 : AVal), m = D.s.length - q ∧ q ≤ D.s.length ∧ vs = [.ptr d 0, x1, x2, .ptr j 0, .sl (ps.map partV) (.own a 5), x3, x4, x5, x6, x7, .int .i64 (q : Int), x8, x9, x10, x11, x12, x13, x14, x15, x16, x17, x18, x19] ∧
        scanS ps 0 [] = scanS (ps.drop q) 0 R ∧ R.length ≤ q ∧ PJ h' j d t1 t2 t3 { J with recs := R } ∧ PD h' d b p w D ∧ Fr (fun _ => False) h h' ∧ (∀ i, JS j t1 t2 t3 i → h.next ≤ i)) D.s.length
      ⟨0, .nil, .nil, [], _, _, _, _, _, _, _, _, _, _, _, _, _, _, _, _, _, _, _, rfl, by omega, rfl, rfl, by simp, by rw [← hJ0]; exact PJ1, P2, f2, ?_⟩ ?_
    · rintro i (rfl | ⟨s, e⟩ | ⟨s, e⟩ | ⟨s, e⟩)
      · omega
      · simp at e
      · exact u2 _ _ e
      · simp at e
    · clear PJ1 G1 P2 f2 ga
      rintro m vs h1 ⟨q, t1, t3, R, x1, x2, x3, x4, x5, x6, x7, x8, x9, x10, x11, x12, x13, x14, x15, x16, x17, x18, x19, rfl, hq, rfl, hsc, hRl, PJ1, P2, f2, u3⟩
      by_cases hqn : q < D.s.length
      · have hdn : ps.drop q ≠ [] := fun e => by have := congrArg List.length e; simp at this; omega
        have hpo : ∀ o ∈ ps, POk o := by
          intro o ho
          rw [hps] at ho
          obtain ⟨s, _, rfl⟩ := List.mem_map.1 ho
          exact unpack_ok s
        have hrec := record_v (ps.drop q) hdn (by rw [List.length_drop]; omega) (fun o ho => hpo o (List.mem_of_mem_drop ho))
        have hsl := slice_o_a partV ps (i := a) (s := 5) .i64 (q : Int) (by omega) (by omega) partV_len
        rw [Int.toNat_natCast] at hsl
        have h1l := scanS_drop ps
        cases hr : record (ps.drop q) with
        | none =>
          rw [hr] at hrec
          have hnx := scanS_none (R := R) hdn hr
          rw [List.drop_drop] at hnx
          unfold recV at hrec
          replace fx := aI @hsl @hrec
          (first | refine go ?_ | exact goC | skip); repeat' (first | refine gP ?_ | exact gPc | refine gN ?_ | exact gNc | (refine gI ?_ ?_ <;> intro hyp <;> first | refine goF ?_ | exact goFc | refine goT ?_ | exact goTc | skip))
          exact lp_n ⟨_, by omega, q + 1, t1, t3, R, _, _, _, _, _, _, _, _, _, _, _, _, _, _, _, _, _, _, _, rfl, by omega, by push_cast; rfl, by rw [hsc, hnx], by omega, PJ1, P2, f2, u3⟩
        | some x =>
          obtain ⟨nm, c, tx⟩ := x
          rw [hr] at hrec
          unfold recV at hrec
          obtain ⟨hc1, hcl, htx, hpn⟩ := record_facts hpo hr
          have hnx := scanS_some (R := R) hr hc1
          rw [List.drop_drop] at hnx
          have hnum : (partV (nth ps q)).cells.take 1 = [.int .i64 (nm : Int)] := by
            obtain ⟨p, hp, hpp⟩ := hpn
            rw [hp, ← hpp]; rfl
          have hpl := partV_len (nth ps q)
          obtain ⟨u, hu, hst⟩ := PJ1.tk.g1.strip intN
          have hct := contains_n (R.map (·.1)) nm (by simp; omega) u hu
          obtain ⟨prow, g1, g2, g3, gne⟩ := PJ1
          simp only [Jst.nums, Jst.texts] at prow g1 g2 g3 hst
          by_cases hmem : nm ∈ R.map (·.1)
          · rw [addRec, if_pos hmem] at hnx
            replace fx := aI @hsl (aI @hrec (aI @prow (aI @hnum (aI @hpl (aI @hst (aI @hct (eq_true hmem)))))))
            (first | refine go ?_ | exact goC | skip); repeat' (first | refine gP ?_ | exact gPc | refine gN ?_ | exact gNc | (refine gI ?_ ?_ <;> intro hyp <;> first | refine goF ?_ | exact goFc | refine goT ?_ | exact goTc | skip))
            exact lp_n ⟨_, by omega, q + c, t1, t3, R, _, _, _, _, _, _, _, _, _, _, _, _, _, _, _, _, _, _, _, rfl, by omega, by push_cast; rfl, by rw [hsc, hnx], by omega, ⟨prow, g1, g2, g3, gne⟩, P2, f2, u3⟩
          · rw [addRec, if_neg hmem] at hnx
            have lb : ∀ H, litA 0 3 1 1 false [.int .i64 0] (some [.int .i64 (nm : Int)]) H = some (.sl [intN nm] .none, H) := fun H => lit_none rfl rfl rfl rfl
            have ls : ∀ H, litA 0 9 1 1 false [.str []] (some [.str tx]) H = some (.sl [strV tx] .none, H) := fun H => lit_none rfl rfl rfl rfl
            obtain ⟨h2, e2, n2, k2, o2⟩ := append_N (bytes := 8) (ag := false) (f := intN) (y := .sl ([nm].map intN) .none) (ys := [nm]) intN_len (fun _ => rfl) (fun _ => rfl) lenA_sl (elems_sl intN_len) g1 (by simp; omega) (by omega) (by omega) (by omega) (by simp)
            simp only [List.map_cons, List.map_nil] at e2
            have lj1 := get_lt prow
            have row2 := (o2 j lj1 (g1.ne prow (by simp))).trans prow
            have g3' : GrN h2 9 1 (R.map (·.2)) t3 := g3.keep fun i hg _ => (o2 i (get_lt hg) (g1.ne hg (by simp))).trans hg
            obtain ⟨h3, e3, n3, k3, o3⟩ := append_N (bytes := 16) (ag := false) (f := strV) (y := .sl ([tx].map strV) .none) (ys := [tx]) strV_len (fun _ => rfl) (fun _ => rfl) lenA_sl (elems_sl strV_len) g3' (by simp; omega) (by omega) (by omega) (by omega) (by simp)
            simp only [List.map_cons, List.map_nil] at e3
            have row3 := (o3 j (by omega) (g3'.ne row2 (by simp))).trans row2
            have pp : ∀ x y, ((h3.put j (some x)).put j y).get j = y := fun x y => get_put_old (get_put_old row3)
            have kk : h3.get h1.next = some (.tok 3) := (o3 _ (by omega) (g3'.ne k2 (by simp))).trans k2
            replace fx := aI @hsl (aI @hrec (aI @prow (aI @hnum (aI @hpl (aI @hst (aI @hct (aI (eq_false hmem) (aI @lb (aI @ls (aI @e2 (aI @row2 (aI @e3 (aI @row3 @pp)))))))))))))
            (first | refine go ?_ | exact goC | skip); repeat' (first | refine gP ?_ | exact gPc | refine gN ?_ | exact gNc | (refine gI ?_ ?_ <;> intro hyp <;> first | refine goF ?_ | exact goFc | refine goT ?_ | exact goTc | skip))
            have hre : { J with recs := R ++ [(nm, tx)] }.nums = R.map (·.1) ++ [nm] := by simp [Jst.nums]
            have hte : { J with recs := R ++ [(nm, tx)] }.texts = R.map (·.2) ++ [tx] := by simp [Jst.texts]
            have hu1 : ∀ i s, t1 = .own i s → h.next ≤ i := fun i s e => u3 i (.inr (.inl ⟨s, e⟩))
            have hu2 : ∀ i s, t2 = .own i s → h.next ≤ i := fun i s e => u3 i (.inr (.inr (.inl ⟨s, e⟩)))
            have hu3 : ∀ i s, t3 = .own i s → h.next ≤ i := fun i s e => u3 i (.inr (.inr (.inr ⟨s, e⟩)))
            have hgo : ∀ (x y : Option Abs.Obj) i, i < h1.next → i ≠ j → (∀ s, t1 ≠ .own i s) → (∀ s, t3 ≠ .own i s) → ((h3.put j x).put j y).get i = h1.get i := fun x y i q1 q2 q3 q4 => by
              rw [get_put_ne q2, get_put_ne q2, o3 i (by omega) (fun i' s' e => by rintro rfl; exact q4 _ e), o2 i q1 (fun i' s' e => by rintro rfl; exact q3 _ e)]
            have lP := P.lt
            have hf2 := f2.1
            refine lp_n ⟨_, by omega, q + c, .own h1.next 1, .own h2.next 1, R ++ [(nm, tx)], _, _, _, _, _, _, _, _, _, _, _, _, _, _, _, _, _, _, _, rfl, by omega, by push_cast; rfl, by rw [hsc, hnx], by simp; omega, ⟨by rw [hre, hte]; exact pp _ _, ⟨?_, ?_, ?_, ?_⟩⟩, P2.fr (S := fun i => i = j ∨ (∃ s, t1 = .own i s) ∨ ∃ s, t3 = .own i s) ⟨by rw [put_next, put_next]; omega, fun i q1 q2 => hgo _ _ i q1 (fun e => q2 (.inl e)) (fun s e => q2 (.inr (.inl ⟨s, e⟩))) (fun s e => q2 (.inr (.inr ⟨s, e⟩)))⟩ ?_, ⟨by rw [put_next, put_next]; omega, fun i q1 _ => ?_⟩, ?_⟩
            · exact .inr ⟨_, rfl, by rw [get_put_ne (by omega), get_put_ne (by omega)]; exact kk⟩
            · refine g2.keep fun i hg ⟨s, e⟩ => (hgo _ _ i (get_lt hg) (by rintro rfl; rw [prow] at hg; simp at hg) (fun s' e' => gne i s' s e' e) (fun s' e' => g3.ne hg (by simp) _ _ e' rfl)).trans hg
            · exact .inr ⟨_, rfl, by rw [get_put_ne (by omega), get_put_ne (by omega)]; exact k3⟩
            · intro i s s' e e'
              simp only [Tok.own.injEq] at e
              have := g2.lt e'
              omega
            · rintro i hi (rfl | ⟨s, e⟩ | ⟨s, e⟩)
              · have := lP _ hi; omega
              · have := lP _ hi; have := hu1 _ _ e; omega
              · have := lP _ hi; have := hu3 _ _ e; omega
            · rw [hgo _ _ i (by omega) (by omega) (fun s e => by have := hu1 _ _ e; omega) (fun s e => by have := hu3 _ _ e; omega)]
              exact f2.2 i q1 (fun q => q)
            · rintro i (rfl | ⟨s, e⟩ | ⟨s, e⟩ | ⟨s, e⟩)
              · omega
              · simp only [Tok.own.injEq] at e; omega
              · exact hu2 _ _ e
              · simp only [Tok.own.injEq] at e; omega
      · have e : q = D.s.length := by omega
        subst e
        have hR : scanS ps 0 [] = R := by rw [hsc, List.drop_eq_nil_of_le (by omega)]; rfl
        have hop2 : openJ (conts D) = { J with recs := R } := by rw [hop, hR]
        replace fx := Dum_eq
        (first | refine go ?_ | exact goC | skip); repeat' (first | refine gP ?_ | exact gPc | refine gN ?_ | exact gNc | (refine gI ?_ ?_ <;> intro hyp <;> first | refine goF ?_ | exact goFc | refine goT ?_ | exact goTc | skip))
        rw [hop2]
        exact ⟨j, t1, t2, t3, rfl, PJ1, P2, f2, fun i hi => by rw [hj]; exact u3 i hi⟩
end Go.Proofs.YtjofjgflcogklaaGreatDoor

namespace Go.Abs
variable {F : Nat → Option AEnt}
def ClV {α : Type} (h : Heap) (v : AVal) (f : α → AVal) (l : List α) : Prop := (l = [] ∧ (v = .sl [] .nil ∨ v = .sl [] .full)) ∨ ∃ id, v = .ref id 0 l.length 1 ∧ h.get id = some (.row true 1 false (flat (l.map f)))
theorem ClV.fr {α : Type} {S : Nat → Prop} {h h' : Heap} {v : AVal} {f : α → AVal} {l : List α} (c : ClV h v f l) (fr : Fr (fun _ => False) h h') : ClV h' v f l := by
  rcases c with c | ⟨id, e, g⟩
  · exact .inl c
  · exact .inr ⟨id, e, fr.get g (fun q => q)⟩
theorem pur_tk2 (h : Heap) (xs : List AVal) (tk : Tok) : ∃ u, Pt u ∧ purify h (.sl xs tk) = some (.sl xs u) ∧ strip (.sl xs tk) = some (.sl xs u) := by
  cases tk with
  | none => exact ⟨.none, .inl rfl, rfl, rfl⟩
  | nil => exact ⟨.nil, .inr rfl, rfl, rfl⟩
  | own i s => exact ⟨.none, .inl rfl, rfl, rfl⟩
  | full => exact ⟨.none, .inl rfl, by simp only [purify], by simp only [strip]⟩
def Pu (h : Heap) (v : AVal) (xs : List AVal) : Prop := ∃ u, Pt u ∧ purify h v = some (.sl xs u) ∧ (strip v = none ∨ strip v = some (.sl xs u))
theorem Pu.sl (h : Heap) (xs : List AVal) (tk : Tok) : Pu h (.sl xs tk) xs := by
  obtain ⟨u, h1, h2, h3⟩ := pur_tk2 h xs tk
  exact ⟨u, h1, h2, .inr h3⟩
theorem ClV.pu {α : Type} [Inhabited α] {h : Heap} {v : AVal} {f : α → AVal} {l : List α} (c : ClV h v f l) (h1 : ∀ x, (f x).cells.length = 1) (h2 : ∀ x, stripL (f x).cells = some (f x).cells) (h3 : ∀ x, mk false (f x).cells = some (f x)) : Pu h v (l.map f) := by
  rcases c with ⟨rfl, rfl | rfl⟩ | ⟨id, rfl, g⟩
  · exact Pu.sl h [] .nil
  · exact Pu.sl h [] .full
  · refine ⟨.none, .inl rfl, ?_, .inl rfl⟩
    rw [pu_ref]
    have hs : stripL (flat (l.map f)) = some (flat (l.map f)) := stripm h2 l
    have hc := chunkm (f := f) (sz := 1) h1 false h3 l []
    rw [List.append_nil] at hc
    have hr : readRef h id 0 l.length 1 = some (l.map f) := by
      unfold readRef
      simp only [g]
      rw [if_pos ⟨.inl trivial, by rw [flatm_len h1]; omega⟩]
      simp only [hs, Bool.false_and, List.drop_zero]
      exact hc
    rw [hr]; rfl
theorem gv_b {g : Nat} {a : List AVal} {b : Bool} (e : PV F g a = some (.bool b)) : ∃ h', GV F g a Heap.empty = some (.bool b, h') := by
  unfold PV at e
  split at e
  · rename_i r h' hg
    refine ⟨h', ?_⟩
    have : r = .bool b := by
      cases r with
      | sl xs t => obtain ⟨u, _, q, _⟩ := pur_tk2 h' xs t; rw [q] at e; simp at e
      | _ => simp [purify] at e <;> first | exact e ▸ rfl | skip
    rw [hg, this]
  · simp at e
theorem pc_two {f : Nat} {h : Heap} {v w : AVal} {xs ys : List AVal} {b : Bool} {K : AVal → Heap → Prop} (hv : Pu h v xs) (hw : Pu h w ys) (e : ∀ u u', Pt u → Pt u' → PV F f [.sl xs u, .sl ys u'] = some (.bool b)) (k : K (.bool b) h) :
    PC F f (sc (strip v) (sc (strip w) (some []))) [v, w] h K := by
  obtain ⟨u, hu, p1, s1⟩ := hv
  obtain ⟨u', hu', p2, s2⟩ := hw
  have e := e u u' hu hu'
  obtain ⟨h', g⟩ := gv_b e
  have hn : PC F f none [v, w] h K := PC_none.2 ⟨[.sl xs u, .sl ys u'], by rw [puL_cons, puL_cons, puL_nil, p1, p2]; rfl, _, _, g, rfl, k⟩
  rcases s1 with s1 | s1 <;> rcases s2 with s2 | s2 <;> rw [s1, s2]
  · exact hn
  · exact hn
  · exact hn
  · exact PC_some.2 ⟨_, e, k⟩
end Go.Abs
namespace Go.Proofs.YtjofjgflcogklaaGreatDoor
open Go Go.Abs Go.Sha Go.Jn
variable {h : Heap} {d b p w : Nat} {D : Dsk}
theorem cmp_eql (b : Bool) : cmpA .eql (some b) = some (.bool b) := rfl
theorem afresh_c {α : Type} [Inhabited α] {f : α → AVal} (h1 : ∀ x, (f x).cells.length = 1) (l : List α) (hl : l.length ≤ 1000000) (ty bytes : Nat) (hb : bytes ≤ 10000) (t : Tok) (h : Heap) :
    ∃ v h', evalX (.afresh ty bytes 1 false) [.sl [] .full, .sl (l.map f) t] h = some (v, h') ∧ ClV h' v f l ∧ Fr (fun _ => False) h h' := by
  have he : elemsA h 1 (.sl (l.map f) t) = some (flat (l.map f)) := elems_sl h1
  have hlen : lenA (.sl (l.map f) t) = some l.length := lenA_sl
  by_cases hn : l = []
  · subst hn
    exact ⟨.sl [] .full, h, rfl, .inl ⟨rfl, .inr rfl⟩, Fr.refl _ _⟩
  · have hne : l.length ≠ 0 := fun e => hn (List.length_eq_zero_iff.1 e)
    have hr := roomOk_of (n := 0 + l.length) (bytes := bytes) (by omega) hb
    refine ⟨.ref h.next 0 l.length 1, h.push (.row true 1 false (flat (l.map f))), ?_, .inr ⟨_, rfl, get_push_eq rfl⟩, (Fr.refl _ _).push _⟩
    simp only [evalX, appendA, hlen, he, hne, if_false, List.length_nil, hr]
    rfl
theorem cloneI_c (l : List Nat) (hl : l.length ≤ 1000000) {tk : Tok} {h : Heap} (g : GrN h 3 1 l tk) : CV F 62 [.sl (l.map intN) tk] h (fun v h' => ClV h' v intN l ∧ Fr (fun _ => False) h h') := by
  refine CV_wp (fn := c62) rfl ?_
  dsimp only [c62]
  rcases g with ⟨rfl, rfl⟩ | ⟨id, rfl, g⟩
  · have e : ∀ (x : List AVal), slEq (.sl x .nil) (.sl [] .nil) = some true := fun _ => rfl
    replace fx := aI @bin_sl (aI @e @cmp_eql)
    (first | refine go ?_ | exact goC | skip); repeat' (first | refine gP ?_ | exact gPc | refine gN ?_ | exact gNc | (refine gI ?_ ?_ <;> intro hyp <;> first | refine goF ?_ | exact goFc | refine goT ?_ | exact goTc | skip))
    exact ⟨.inl ⟨rfl, .inl rfl⟩, Fr.refl _ _⟩
  · have e : ∀ (x : List AVal), slEq (.sl x (.own id 1)) (.sl [] .nil) = some false := fun _ => rfl
    obtain ⟨v, h', e1, e2, e3⟩ := afresh_c intN_len l hl 3 8 (by omega) (.own id 1) h
    replace fx := aI @bin_sl (aI @e (aI @cmp_eql (aI @evx_elit @e1)))
    (first | refine go ?_ | exact goC | skip); repeat' (first | refine gP ?_ | exact gPc | refine gN ?_ | exact gNc | (refine gI ?_ ?_ <;> intro hyp <;> first | refine goF ?_ | exact goFc | refine goT ?_ | exact goTc | skip))
    exact ⟨e2, e3⟩
theorem cloneS_c (l : List Bs) (hl : l.length ≤ 1000000) {tk : Tok} {h : Heap} (g : GrN h 9 1 l tk) : CV F 61 [.sl (l.map strV) tk] h (fun v h' => ClV h' v strV l ∧ Fr (fun _ => False) h h') := by
  refine CV_wp (fn := c61) rfl ?_
  dsimp only [c61]
  rcases g with ⟨rfl, rfl⟩ | ⟨id, rfl, g⟩
  · have e : ∀ (x : List AVal), slEq (.sl x .nil) (.sl [] .nil) = some true := fun _ => rfl
    replace fx := aI @bin_sl (aI @e @cmp_eql)
    (first | refine go ?_ | exact goC | skip); repeat' (first | refine gP ?_ | exact gPc | refine gN ?_ | exact gNc | (refine gI ?_ ?_ <;> intro hyp <;> first | refine goF ?_ | exact goFc | refine goT ?_ | exact goTc | skip))
    exact ⟨.inl ⟨rfl, .inl rfl⟩, Fr.refl _ _⟩
  · have e : ∀ (x : List AVal), slEq (.sl x (.own id 1)) (.sl [] .nil) = some false := fun _ => rfl
    obtain ⟨v, h', e1, e2, e3⟩ := afresh_c strV_len l hl 9 16 (by omega) (.own id 1) h
    replace fx := aI @bin_sl (aI @e (aI @cmp_eql (aI @evx_elit @e1)))
    (first | refine go ?_ | exact goC | skip); repeat' (first | refine gP ?_ | exact gPc | refine gN ?_ | exact gNc | (refine gI ?_ ?_ <;> intro hyp <;> first | refine goF ?_ | exact goFc | refine goT ?_ | exact goTc | skip))
    exact ⟨e2, e3⟩
theorem numbers_c {j : Nat} {t1 t2 t3 : Tok} {J : Jst} (P : PJ h j d t1 t2 t3 J) (hl : J.nums.length ≤ 1000000) : CV F 42 [.ptr j 0] h (fun v h' => ClV h' v intN J.nums ∧ Fr (fun _ => False) h h') := by
  refine CV_wp (fn := c42) rfl ?_
  dsimp only [c42]
  have prow := P.row
  replace fx := @prow
  (first | refine go ?_ | exact goC | skip); repeat' (first | refine gP ?_ | exact gPc | refine gN ?_ | exact gNc | (refine gI ?_ ?_ <;> intro hyp <;> first | refine goF ?_ | exact goFc | refine goT ?_ | exact goTc | skip))
  refine CV_mono (cloneI_c _ hl P.tk.g1) ?_
  rintro v h' ⟨q1, q2⟩
  replace fx := Dum_eq
  (first | refine go ?_ | exact goC | skip); repeat' (first | refine gP ?_ | exact gPc | refine gN ?_ | exact gNc | (refine gI ?_ ?_ <;> intro hyp <;> first | refine goF ?_ | exact goFc | refine goT ?_ | exact goTc | skip))
  exact ⟨q1, q2⟩
theorem texts_c {j : Nat} {t1 t2 t3 : Tok} {J : Jst} (P : PJ h j d t1 t2 t3 J) (hl : J.texts.length ≤ 1000000) : CV F 21 [.ptr j 0] h (fun v h' => ClV h' v strV J.texts ∧ Fr (fun _ => False) h h') := by
  refine CV_wp (fn := c21) rfl ?_
  dsimp only [c21]
  have prow := P.row
  replace fx := @prow
  (first | refine go ?_ | exact goC | skip); repeat' (first | refine gP ?_ | exact gPc | refine gN ?_ | exact gNc | (refine gI ?_ ?_ <;> intro hyp <;> first | refine goF ?_ | exact goFc | refine goT ?_ | exact goTc | skip))
  refine CV_mono (cloneS_c _ hl P.tk.g3) ?_
  rintro v h' ⟨q1, q2⟩
  replace fx := Dum_eq
  (first | refine go ?_ | exact goC | skip); repeat' (first | refine gP ?_ | exact gPc | refine gN ?_ | exact gNc | (refine gI ?_ ?_ <;> intro hyp <;> first | refine goF ?_ | exact goFc | refine goT ?_ | exact goTc | skip))
  exact ⟨q1, q2⟩
theorem bad_c {j : Nat} {t1 t2 t3 : Tok} {J : Jst} (P : PJ h j d t1 t2 t3 J) (hl : J.bad.length ≤ 1000000) : CV F 22 [.ptr j 0] h (fun v h' => ClV h' v intN J.bad ∧ Fr (fun _ => False) h h') := by
  refine CV_wp (fn := c22) rfl ?_
  dsimp only [c22]
  have prow := P.row
  replace fx := @prow
  (first | refine go ?_ | exact goC | skip); repeat' (first | refine gP ?_ | exact gPc | refine gN ?_ | exact gNc | (refine gI ?_ ?_ <;> intro hyp <;> first | refine goF ?_ | exact goFc | refine goT ?_ | exact goTc | skip))
  refine CV_mono (cloneI_c _ hl P.tk.g2) ?_
  rintro v h' ⟨q1, q2⟩
  replace fx := Dum_eq
  (first | refine go ?_ | exact goC | skip); repeat' (first | refine gP ?_ | exact gPc | refine gN ?_ | exact gNc | (refine gI ?_ ?_ <;> intro hyp <;> first | refine goF ?_ | exact goFc | refine goT ?_ | exact goTc | skip))
  exact ⟨q1, q2⟩
theorem next_c {j : Nat} {t1 t2 t3 : Tok} {J : Jst} (P : PJ h j d t1 t2 t3 J) : CV F 37 [.ptr j 0] h (fun v h' => v = .int .i64 (J.next : Int) ∧ h' = h) := by
  refine CV_wp (fn := c37) rfl ?_
  dsimp only [c37]
  have prow := P.row
  replace fx := @prow
  (first | refine go ?_ | exact goC | skip); repeat' (first | refine gP ?_ | exact gPc | refine gN ?_ | exact gNc | (refine gI ?_ ?_ <;> intro hyp <;> first | refine goF ?_ | exact goFc | refine goT ?_ | exact goTc | skip))
theorem room_c {j : Nat} {t1 t2 t3 : Tok} {J : Jst} (P : PJ h j d t1 t2 t3 J) (PD0 : PD h d b p w D) (hf : J.fin ≤ D.s.length) : CV F 38 [.ptr j 0] h (fun v h' => v = .int .i64 ((D.s.length : Int) - (J.fin : Int)) ∧ h' = h) := by
  refine CV_wp (fn := c38) rfl ?_
  dsimp only [c38]
  have prow := P.row
  have L := cv_rw (len_c PD0)
  have hl := PD0.ok.len
  replace fx := aI @prow @L
  (first | refine go ?_ | exact goC | skip); repeat' (first | refine gP ?_ | exact gPc | refine gN ?_ | exact gNc | (refine gI ?_ ?_ <;> intro hyp <;> first | refine goF ?_ | exact goFc | refine goT ?_ | exact goTc | skip))
theorem rroom_c {j r s : Nat} {t1 t2 t3 : Tok} {J : Jst} (P : RJ h j r t1 t2 t3 J) (R0 : RD h r s D) (hf : J.fin ≤ D.s.length) : CV F 59 [.ptr j 0] h (fun v h' => v = .int .i64 ((D.s.length : Int) - (J.fin : Int)) ∧ h' = h) := by
  refine CV_wp (fn := c59) rfl ?_
  dsimp only [c59]
  have prow := P.row
  have L := cv_rw (rlen_c R0)
  have hl := R0.ok.len
  replace fx := aI @prow @L
  (first | refine go ?_ | exact goC | skip); repeat' (first | refine gP ?_ | exact gPc | refine gN ?_ | exact gNc | (refine gI ?_ ?_ <;> intro hyp <;> first | refine goF ?_ | exact goFc | refine goT ?_ | exact goTc | skip))
def missing (l : List Nat) (n : Nat) : List Nat := (List.range n).filter fun i => decide (1 ≤ i) && !decide (i ∈ l)
theorem damaged_eq (J : Jst) : damaged J = missing J.nums J.next := rfl
theorem missing_succ (l : List Nat) (n : Nat) (hn : 1 ≤ n) : missing l (n + 1) = missing l n ++ (if n ∈ l then [] else [n]) := by
  rw [missing, missing, List.range_succ, List.filter_append]
  congr 1
  by_cases h : n ∈ l <;> simp [h, hn]
theorem missing_one (l : List Nat) : missing l 1 = [] := rfl
theorem missing_len (l : List Nat) (n : Nat) : (missing l n).length ≤ n := by
  have := List.length_filter_le (fun i => decide (1 ≤ i) && !decide (i ∈ l)) (List.range n)
  simpa [missing] using this
theorem mem_take_succ (l : List Nat) {k : Nat} (hk : k < l.length) (i : Nat) : i ∈ l.take (k + 1) ↔ i = nth l k ∨ i ∈ l.take k := by
  rw [List.take_succ_eq_append_getElem hk, List.mem_append, nth_eq hk]
  simp [or_comm]
def inF (l : List Nat) (i : Nat) : Option AVal := if i ∈ l then some (.bool true) else none
theorem damaged_c {j : Nat} {t1 t2 t3 : Tok} {J : Jst} (P : PJ h j d t1 t2 t3 J) (hl : J.nums.length ≤ 1000000) (hn : J.next ≤ 5000) (hb : ∀ x ∈ J.nums, x < 5000) (h1 : 1 ≤ J.next) :
    CV F 24 [.ptr j 0] h (fun v h' => ∃ tk, v = .sl ((damaged J).map intN) tk ∧ Fr (fun _ => False) h h') := by
  refine CV_wp (fn := c24) rfl ?_
  dsimp only [c24]
  have prow := P.row
  have lj := get_lt prow
  obtain ⟨m, hm⟩ : ∃ m, m = h.next := ⟨_, rfl⟩
  replace fx := @prow
  (first | refine go ?_ | exact goC | skip); repeat' (first | refine gP ?_ | exact gPc | refine gN ?_ | exact gNc | (refine gI ?_ ?_ <;> intro hyp <;> first | refine goF ?_ | exact goFc | refine goT ?_ | exact goTc | skip))
  rw [← hm]
  refine w_loop (fun q vs h' => ∃ (k : Nat) (c : Nat) (es : List (Nat × AVal × AVal)) (x1 x2 x3 x4 x5 x6 : AVal), q = J.nums.length - k ∧ k ≤ J.nums.length ∧ vs = [.ptr j 0, .sl [] .nil, .mp m, x1, x2, x3, .sl (J.nums.map intN) t1, .int .i64 (J.nums.length : Int), .int .i64 (k : Int), x4, x5, x6] ∧
      h'.get m = some (.map (.int .i64) c es) ∧ MapIs es 5000 (inF (J.nums.take k)) ∧ Fr (fun i => i = m) h h') J.nums.length
    ⟨0, 0, [], _, _, _, _, _, _, rfl, by omega, rfl, get_push_eq hm, mapIs_nil 5000, (Fr.refl _ _).push _⟩ ?_
  · rintro q vs h1 ⟨k, c, es, x1, x2, x3, x4, x5, x6, rfl, hk, rfl, gm, hM, f1⟩
    by_cases hkl : k < J.nums.length
    · have hlt := hb _ (nth_mem hkl)
      obtain ⟨n, hnn⟩ : ∃ n, n = nth J.nums k := ⟨_, rfl⟩
      have hM' := hM.put (i := n) (by rw [hnn]; exact hlt) (.bool true) c
      have hx : upd (inF (J.nums.take k)) n (some (.bool true)) = inF (J.nums.take (k + 1)) := by
        funext i
        simp only [upd, inF, mem_take_succ _ hkl, ← hnn]
        by_cases e : i = n <;> simp [e]
      rw [hx] at hM'
      have hs := hnn.symm
      have hpl : plain (.bool true) = true := rfl
      replace fx := aI @gm (aI @hs @intN_eq)
      (first | refine go ?_ | exact goC | skip); repeat' (first | refine gP ?_ | exact gPc | refine gN ?_ | exact gNc | (refine gI ?_ ?_ <;> intro hyp <;> first | refine goF ?_ | exact goFc | refine goT ?_ | exact goTc | skip))
      exact lp_n ⟨_, by omega, k + 1, _, _, _, _, _, _, _, _, rfl, by omega, by push_cast; rfl, get_put_old gm, hM', f1.put (.inl rfl) _⟩
    · have e : k = J.nums.length := by omega
      subst e
      rw [List.take_length] at hM
      have prow1 := f1.get prow (show ¬ j = m by omega)
      have hm1 := missing_one J.nums
      replace fx := @prow1
      (first | refine go ?_ | exact goC | skip); repeat' (first | refine gP ?_ | exact gPc | refine gN ?_ | exact gNc | (refine gI ?_ ?_ <;> intro hyp <;> first | refine goF ?_ | exact goFc | refine goT ?_ | exact goTc | skip))
      refine w_loop (fun q vs h' => ∃ (n : Nat) (tk : Tok) (x1 x2 x3 x4 x5 x6 x7 : AVal), q = J.next - n ∧ 1 ≤ n ∧ n ≤ J.next ∧ vs = [.ptr j 0, .sl [] .nil, .mp m, x1, .sl ((missing J.nums n).map intN) tk, .int .i64 (n : Int), x2, x3, x4, x5, x6, x7] ∧
          h'.get m = some (.map (.int .i64) c es) ∧ GrN h' 3 1 (missing J.nums n) tk ∧ (∀ i s, tk = .own i s → h.next < i) ∧ Fr (fun i => i = m) h h') (J.next - 1)
        ⟨1, .nil, _, _, _, _, _, _, _, by omega, by omega, by omega, by rw [hm1]; rfl, gm, by rw [hm1]; exact GrN.nil _ _ _, by simp, f1⟩ ?_
      clear f1 gm prow1
      rintro q vs h1 ⟨n, tk, x1, x2, x3, x4, x5, x6, x7, rfl, hn1, hnx, rfl, gm, G, u1, f1⟩
      have prow1 := f1.get prow (show ¬ j = m by omega)
      by_cases hlt : n < J.next
      · have hms := missing_succ J.nums n hn1
        have hml := missing_len J.nums n
        by_cases hin : n ∈ J.nums
        · obtain ⟨q, hq⟩ := hM.getS (i := n) (v := .bool true) (by simp [inF, hin])
          rw [if_pos hin, List.append_nil] at hms
          have hlk := fun z ok h c => lookM_some hq z ok h c
          replace fx := aI @prow1 (aI @gm @hlk)
          (first | refine go ?_ | exact goC | skip); repeat' (first | refine gP ?_ | exact gPc | refine gN ?_ | exact gNc | (refine gI ?_ ?_ <;> intro hyp <;> first | refine goF ?_ | exact goFc | refine goT ?_ | exact goTc | skip))
          exact lp_n ⟨_, by omega, n + 1, tk, _, _, _, _, _, _, _, rfl, by omega, by omega, by rw [hms]; push_cast; rfl, gm, by rw [hms]; exact G, u1, f1⟩
        · have hq := hM.getN (i := n) (by simp [inF, hin])
          rw [if_neg hin] at hms
          have hlk := fun z ok h c => lookM_none hq z ok h c
          have lb : ∀ H, litA 0 3 1 1 false [.int .i64 0] (some [.int .i64 (n : Int)]) H = some (.sl [intN n] .none, H) := fun H => lit_none rfl rfl rfl rfl
          obtain ⟨h2, e2, n2, k2, o2⟩ := append_N (bytes := 8) (ag := false) (f := intN) (y := .sl ([n].map intN) .none) (ys := [n]) intN_len (fun _ => rfl) (fun _ => rfl) lenA_sl (elems_sl intN_len) G (by simp; omega) (by omega) (by omega) (by omega) (by simp)
          simp only [List.map_cons, List.map_nil] at e2
          rw [← hms] at e2
          replace fx := aI @prow1 (aI @gm (aI @hlk (aI @lb @e2)))
          (first | refine go ?_ | exact goC | skip); repeat' (first | refine gP ?_ | exact gPc | refine gN ?_ | exact gNc | (refine gI ?_ ?_ <;> intro hyp <;> first | refine goF ?_ | exact goFc | refine goT ?_ | exact goTc | skip))
          have hf1 := f1.1
          have hlm := get_lt gm
          refine lp_n ⟨_, by omega, n + 1, _, _, _, _, _, _, _, _, rfl, by omega, by omega, by push_cast; rfl, (o2 m hlm (G.ne gm (by simp))).trans gm, .inr ⟨_, rfl, k2⟩, fun i s e => ?_, ⟨by omega, fun i hi hne => ?_⟩⟩
          · simp only [Tok.own.injEq] at e; omega
          · rw [o2 i (by omega) (fun i' s e e' => by have := u1 _ _ e; omega)]; exact f1.2 i hi hne
      · have e : n = J.next := by omega
        subst e
        replace fx := @prow1
        (first | refine go ?_ | exact goC | skip); repeat' (first | refine gP ?_ | exact gPc | refine gN ?_ | exact gNc | (refine gI ?_ ?_ <;> intro hyp <;> first | refine goF ?_ | exact goFc | refine goT ?_ | exact goTc | skip))
        refine ⟨tk, rfl, f1.1, fun i hi _ => f1.2 i hi (by omega)⟩
theorem has_n (l : List Nat) (n : Nat) (hl : l.length ≤ 1000000) (t : Tok) (ht : Pt t) : PV F 57 [.sl (l.map intN) t, .int .i64 (n : Int)] = some (.bool (decide (n ∈ l))) := by
  have := has_v (l.map fun i : Nat => (i : Int)) n (by simpa using hl) t ht
  rw [List.map_map] at this
  rw [show l.map intN = l.map (AVal.int .i64 ∘ fun i : Nat => (i : Int)) from rfl, this]
  congr 2
  have : (n : Int) ∈ l.map (fun i : Nat => (i : Int)) ↔ n ∈ l := by
    rw [List.mem_map]
    exact ⟨fun ⟨x, hx, e⟩ => by rwa [← Int.ofNat.inj e], fun hx => ⟨n, hx, rfl⟩⟩
  exact decide_eq_decide.2 this
theorem rdamaged_c {j r : Nat} {t1 t2 t3 : Tok} {J : Jst} (P : RJ h j r t1 t2 t3 J) (hl : J.nums.length ≤ 1000000) (hn : J.next ≤ 5000) (h1 : 1 ≤ J.next) :
    CV F 58 [.ptr j 0] h (fun v h' => ∃ tk, v = .sl ((damaged J).map intN) tk ∧ Fr (fun _ => False) h h') := by
  refine CV_wp (fn := c58) rfl ?_
  dsimp only [c58]
  have prow := P.row
  have hm1 := missing_one J.nums
  replace fx := @prow
  (first | refine go ?_ | exact goC | skip); repeat' (first | refine gP ?_ | exact gPc | refine gN ?_ | exact gNc | (refine gI ?_ ?_ <;> intro hyp <;> first | refine goF ?_ | exact goFc | refine goT ?_ | exact goTc | skip))
  have prow0 := prow
  refine w_loop (fun q vs h' => ∃ (n : Nat) (tk : Tok) (x1 x2 x3 x4 : AVal), q = J.next - n ∧ 1 ≤ n ∧ n ≤ J.next ∧ vs = [.ptr j 0, x1, .sl ((missing J.nums n).map intN) tk, .int .i64 (n : Int), x2, x3, x4] ∧
      GrN h' 3 1 (missing J.nums n) tk ∧ (∀ i s, tk = .own i s → h.next ≤ i) ∧ Fr (fun _ => False) h h') (J.next - 1)
    ⟨1, .nil, _, _, _, _, by omega, by omega, by omega, by rw [hm1]; rfl, by rw [hm1]; exact GrN.nil _ _ _, by simp, Fr.refl _ _⟩ ?_
  rintro q vs h1 ⟨n, tk, x1, x2, x3, x4, rfl, hn1, hnx, rfl, G, u1, f1⟩
  have prow1 := f1.get prow (fun q => q)
  obtain ⟨u, hu, hst⟩ := P.tk.g1.strip intN
  have hh := has_n J.nums n hl u hu
  by_cases hlt : n < J.next
  · have hms := missing_succ J.nums n hn1
    have hml := missing_len J.nums n
    by_cases hin : n ∈ J.nums
    · rw [if_pos hin, List.append_nil] at hms
      replace fx := aI @prow1 (aI @hst (aI @hh (eq_true hin)))
      (first | refine go ?_ | exact goC | skip); repeat' (first | refine gP ?_ | exact gPc | refine gN ?_ | exact gNc | (refine gI ?_ ?_ <;> intro hyp <;> first | refine goF ?_ | exact goFc | refine goT ?_ | exact goTc | skip))
      exact lp_n ⟨_, by omega, n + 1, tk, _, _, _, _, rfl, by omega, by omega, by rw [hms]; push_cast; rfl, by rw [hms]; exact G, u1, f1⟩
    · rw [if_neg hin] at hms
      have lb : ∀ H, litA 0 3 1 1 false [.int .i64 0] (some [.int .i64 (n : Int)]) H = some (.sl [intN n] .none, H) := fun H => lit_none rfl rfl rfl rfl
      obtain ⟨h2, e2, n2, k2, o2⟩ := append_N (bytes := 8) (ag := false) (f := intN) (y := .sl ([n].map intN) .none) (ys := [n]) intN_len (fun _ => rfl) (fun _ => rfl) lenA_sl (elems_sl intN_len) G (by simp; omega) (by omega) (by omega) (by omega) (by simp)
      simp only [List.map_cons, List.map_nil] at e2
      rw [← hms] at e2
      replace fx := aI @prow1 (aI @hst (aI @hh (aI (eq_false hin) (aI @lb @e2))))
      (first | refine go ?_ | exact goC | skip); repeat' (first | refine gP ?_ | exact gPc | refine gN ?_ | exact gNc | (refine gI ?_ ?_ <;> intro hyp <;> first | refine goF ?_ | exact goFc | refine goT ?_ | exact goTc | skip))
      have hf1 := f1.1
      refine lp_n ⟨_, by omega, n + 1, _, _, _, _, _, rfl, by omega, by omega, by push_cast; rfl, .inr ⟨_, rfl, k2⟩, fun i s e => ?_, ⟨by omega, fun i hi hne => ?_⟩⟩
      · simp only [Tok.own.injEq] at e; omega
      · rw [o2 i (by omega) (fun i' s e e' => by have := u1 _ _ e; omega)]; exact f1.2 i hi hne
  · have e : n = J.next := by omega
    subst e
    replace fx := @prow1
    (first | refine go ?_ | exact goC | skip); repeat' (first | refine gP ?_ | exact gPc | refine gN ?_ | exact gNc | (refine gI ?_ ?_ <;> intro hyp <;> first | refine goF ?_ | exact goFc | refine goT ?_ | exact goTc | skip))
    exact ⟨tk, rfl, f1⟩
end Go.Proofs.YtjofjgflcogklaaGreatDoor
