/-
  Merged from JsQ0 JsQ1 JsQ2 JsQ3 JsJ JsK JsL JnG JnH JsArgP: get, put of the journal, bytes.Equal; rounds of ranges over functions.
-/
import Derived.Test.YtjofjgflcogklaaGreatDoorM05
import Derived.Test.YtjofjgflcogklaaGreatDoorM04
set_option linter.unusedSimpArgs false
set_option linter.unusedVariables false
set_option linter.defProp false
set_option linter.constructorNameAsVariable false
/-
  get, put of the journal, bytes.Equal; rounds of ranges over functions.
-/
set_option maxHeartbeats 4000000
namespace Go.Abs
variable {F : Nat → Option AEnt}
theorem w_rfuncC {fid k : Nat} {slots : List Nat} {f : Opd} {vs : List AVal} {h : Heap} {Q : AExit → List AVal → Heap → Prop} {g : Nat} {cap : List AVal} (hf : evOpd vs [] f = .fn g cap)
    (c : CV F g (.yld h.next :: cap) (h.push (.lrec .ready fid k slots vs)) (fun _ h' => afterL h.next vs Q h')) : WP F (.rfunc fid k slots f) vs h Q := by
  obtain ⟨r, h', g, q⟩ := c
  exact w_rfunc hf g q
theorem YV_mono {id : Nat} {asx : List AVal} {h : Heap} {K K' : AVal → Heap → Prop} (c : YV F id asx h K) (hi : ∀ r h', K r h' → K' r h') : YV F id asx h K' := by
  unfold YV at c ⊢
  obtain ⟨n, r, h', e, q⟩ := c
  exact ⟨n, r, h', e, hi _ _ q⟩
theorem beginY_n {id fid k : Nat} {slots : List Nat} {vs vs3 : List AVal} {h : Heap} {body : ACode} {K : AVal → Heap → Prop} (g : h.get id = some (.lrec .ready fid k slots vs3))
    (w : WP F body vs (h.put id (some (.lrec .busy fid k slots vs3))) (fun e _ h => afterY id K e h)) : beginY F id body K .normal vs h := ⟨_, _, _, _, g, w⟩
theorem afterY_n {id fid k : Nat} {slots : List Nat} {vs : List AVal} {h : Heap} {K : AVal → Heap → Prop} (g : h.get id = some (.lrec .busy fid k slots vs))
    (w : K (.bool true) (h.put id (some (.lrec .ready fid k slots vs)))) : afterY id K .normal h := ⟨_, _, _, _, g, w⟩
theorem afterL_n {id fid k : Nat} {slots : List Nat} {vs vs1 : List AVal} {h : Heap} {Q : AExit → List AVal → Heap → Prop} (g : h.get id = some (.lrec .ready fid k slots vs1)) (q : Q .normal vs (h.put id none)) : afterL id vs Q h := by
  unfold afterL; rw [g]; exact q
end Go.Abs
namespace Go.Proofs.YtjofjgflcogklaaGreatDoor
open Go Go.Abs Go.Sha Go.Jn
theorem back_c (b : List UInt8) (hb : b.length ≤ 1000000) {tk : Tok} {H : Heap} {id c : Nat} {I : Nat → Heap → Prop} (h0 : I b.length H) (hbox : ∀ k h, I k h → h.get c = some (.row true 0 false [.sl (b.map byteV) tk]))
    (step : ∀ k h, k < b.length → I (k + 1) h → YV F id [.int .i64 (k : Int), byteV (nth b k)] h (fun v h' => v = .bool true ∧ I k h')) : CV F 103 [.yld id, .ptr c 0] H (fun _ h' => I 0 h') := by
  refine CV_wp (fn := c103) rfl ?_
  dsimp only [oT, oN, oV, oG, oW, c103]
  have g0 := hbox _ _ h0
  replace fx := @g0
  (first | refine go ?_ | exact goC | skip); repeat' (first | refine gP ?_ | exact gPc | refine gN ?_ | exact gNc | (refine gI ?_ ?_ <;> intro hyp <;> first | refine goF ?_ | exact goFc | refine goT ?_ | exact goTc | skip))
  refine w_loop (fun m vs h => ∃ (k : Nat) (x1 x2 : AVal), m = k ∧ k ≤ b.length ∧ vs = [.yld id, .ptr c 0, .int .i64 ((k : Int) - 1), x1, x2] ∧ I k h) b.length
    ⟨b.length, _, _, rfl, by omega, rfl, h0⟩ ?_
  rintro k vs h ⟨_, x1, x2, rfl, hk, rfl, hI⟩
  have g1 := hbox _ _ hI
  cases k with
  | zero =>
    replace fx := Dum_eq
    (first | refine go ?_ | exact goC | skip); repeat' (first | refine gP ?_ | exact gPc | refine gN ?_ | exact gNc | (refine gI ?_ ?_ <;> intro hyp <;> first | refine goF ?_ | exact goFc | refine goT ?_ | exact goTc | skip))
    exact hI
  | succ k =>
    rw [show ((k + 1 : Nat) : Int) - 1 = (k : Int) by omega]
    replace fx := aI @g1 (aI @byte_cells @byte_one)
    (first | refine go ?_ | exact goC | skip); repeat' (first | refine gP ?_ | exact gPc | refine gN ?_ | exact gNc | (refine gI ?_ ?_ <;> intro hyp <;> first | refine goF ?_ | exact goFc | refine goT ?_ | exact goTc | skip))
    refine YV_mono (step k h (by omega) hI) ?_
    rintro v h' ⟨rfl, hI'⟩
    replace fx := Dum_eq
    (first | refine go ?_ | exact goC | skip); repeat' (first | refine gP ?_ | exact gPc | refine gN ?_ | exact gNc | (refine gI ?_ ?_ <;> intro hyp <;> first | refine goF ?_ | exact goFc | refine goT ?_ | exact goTc | skip))
    exact lp_n ⟨_, by omega, k, _, _, rfl, by omega, rfl, hI'⟩
theorem backf_c (h : Heap) (xs : List AVal) (tk : Tok) : CV F 95 [.sl xs tk] h (fun v h' => v = .fn 103 [.ptr h.next 0] ∧ h' = h.push (.row true 0 false [.sl xs tk])) := by
  refine CV_wp (fn := c95) rfl ?_
  dsimp only [oT, oN, oV, oG, oW, c95]
  replace fx := Dum_eq
  (first | refine go ?_ | exact goC | skip); repeat' (first | refine gP ?_ | exact gPc | refine gN ?_ | exact gNc | (refine gI ?_ ?_ <;> intro hyp <;> first | refine goF ?_ | exact goFc | refine goT ?_ | exact goTc | skip))
theorem or256 (m b : Nat) (hm : m < 281474976710656) (hb : b < 256) : binA .or .arith (.int .i64 ((m * 256 : Nat) : Int)) (.int .i64 (b : Int)) = some (.int .i64 ((b + 256 * m : Nat) : Int)) := by
  have e1 : (m * 256 ||| b) = m * 256 + b := by
    have := Nat.shiftLeft_add_eq_or_of_lt (b := b) (i := 8) (by omega) m
    rw [Nat.shiftLeft_eq] at this
    exact this.symm
  have e2 : (BitVec.ofInt 64 ((m * 256 : Nat) : Int) ||| BitVec.ofInt 64 (b : Int)).toNat = m * 256 + b := by
    rw [BitVec.toNat_or, BitVec.ofInt_natCast, BitVec.ofInt_natCast, BitVec.toNat_ofNat, BitVec.toNat_ofNat, Nat.mod_eq_of_lt (by omega), Nat.mod_eq_of_lt (by omega), e1]
  have e3 : IntKind.i64.bits = 64 := rfl
  have e4 : ((m * 256 + b : Nat) : Int) = ((b + 256 * m : Nat) : Int) := by omega
  simp only [binA, intBin, reduceCtorEq, or_self, if_false, if_true]
  show some (AVal.int .i64 (IntKind.i64.wrap ((BitVec.ofInt 64 ((m * 256 : Nat) : Int) ||| BitVec.ofInt 64 (b : Int)).toNat : Int))) = _
  rw [e2, e4, wrap_in64 (by omega) (by omega)]
theorem shl256 (m : Nat) (hm : m < 281474976710656) : binA .shl .arith (.int .i64 (m : Int)) (.int .u64 8) = some (.int .i64 ((m * 256 : Nat) : Int)) := by
  have e3 : IntKind.i64.bits = 64 := rfl
  have h0 : ¬ ((8 : Int) < 0) := by omega
  simp only [binA, shiftA, if_true, or_true, true_or, reduceCtorEq, h0, if_false, e3]
  rw [show (m : Int) * 2 ^ (min (Int.toNat 8) 64) = ((m * 256 : Nat) : Int) by rw [show min (Int.toNat 8) 64 = 8 from rfl]; omega, wrap_in64 (by omega) (by omega)]
theorem num_lt6 (s : Bs) (hs : s.length ≤ 6) (k : Nat) : num (s.drop k) < 281474976710656 := by
  have := num_lt (s.drop k)
  have h2 : 256 ^ (s.drop k).length ≤ 256 ^ 6 := Nat.pow_le_pow_right (by omega) (by rw [List.length_drop]; omega)
  exact Nat.lt_of_lt_of_le this h2
theorem byteV_eq (b : UInt8) : byteV b = .int .u8 (b.toNat : Int) := rfl
theorem get_c (s : Bs) (hs : s.length ≤ 6) : CV F 76 [.sl (s.map byteV) .none] Heap.empty (fun v _ => v = .int .i64 (num s : Int)) := by
  refine CV_wp (fn := c76) rfl ?_
  dsimp only [oT, oN, oV, oG, oW, c76]
  replace fx := Dum_eq
  (first | refine go ?_ | exact goC | skip); repeat' (first | refine gP ?_ | exact gPc | refine gN ?_ | exact gNc | (refine gI ?_ ?_ <;> intro hyp <;> first | refine goF ?_ | exact goFc | refine goT ?_ | exact goTc | skip))
  refine CV_mono (backf_c _ _ _) ?_
  rintro v h1 ⟨rfl, rfl⟩
  replace fx := Dum_eq
  (first | refine go ?_ | exact goC | skip); repeat' (first | refine gP ?_ | exact gPc | refine gN ?_ | exact gNc | (refine gI ?_ ?_ <;> intro hyp <;> first | refine goF ?_ | exact goFc | refine goT ?_ | exact goTc | skip))
  obtain ⟨H, hH⟩ : ∃ H, H = (Heap.empty.push (Obj.row true (typed 3) false [AVal.int IntKind.i64 0])).push (Obj.row true 0 false [AVal.sl (List.map byteV s) Tok.none]) := ⟨_, rfl⟩
  have hn : H.next = 2 := by rw [hH]; rfl
  have h0 : H.get 0 = some (Obj.row true (typed 3) false [AVal.int IntKind.i64 0]) := by rw [hH]; rfl
  have h1 : H.get 1 = some (Obj.row true 0 false [AVal.sl (List.map byteV s) Tok.none]) := by rw [hH]; rfl
  obtain ⟨V, hV⟩ : ∃ V, V = [AVal.sl (s.map byteV) .none, .int .i64 0, .ptr 0 0, .tup [], .fn 103 [.ptr 1 0], .tup []] := ⟨_, rfl⟩
  rw [← hH, ← hV]
  refine w_rfuncC (by rw [hV]; rfl) (CV_mono (back_c s (by omega) (I := fun k h => h.get 0 = some (.row true (typed 3) false [.int .i64 (num (s.drop k) : Int)]) ∧ h.get 1 = some (.row true 0 false [.sl (s.map byteV) .none]) ∧ h.get 2 = some (.lrec .ready 76 0 [0, 2, 3, 5, 7, 9] V))
    ⟨?_, ?_, ?_⟩ (fun k h g => g.2.1) ?_) ?_)
  · rw [List.drop_length, get_push_ne (by omega)]; exact h0
  · rw [get_push_ne (by omega)]; exact h1
  · exact get_push_eq hn.symm
  · rw [hn]
    rintro k h hk ⟨g0, g1, g2⟩
    refine y_wp g2 rfl rfl rfl rfl ?_
    dsimp only [oT, oN, oV, oG, oW, c76, c76L0]
    rw [hV]
    have hN := num_lt6 s hs (k + 1)
    have hb : (nth s k).toNat < 256 := (nth s k).toNat_lt
    have hnd := num_drop s (k := k) hk
    obtain ⟨M, hM⟩ : ∃ M, M = num (s.drop (k + 1)) := ⟨_, rfl⟩
    rw [← hM] at g0 hN hnd
    have e1 := shl256 M hN
    have e2 := or256 M (nth s k).toNat hN hb
    obtain ⟨M2, hM2⟩ : ∃ M2, M2 = M * 256 := ⟨_, rfl⟩
    rw [← hM2] at e1 e2
    simp only [setPs, List.set_cons_succ, List.set_cons_zero]
    replace fx := Dum_eq
    (first | refine go ?_ | exact goC | skip); repeat' (first | refine gP ?_ | exact gPc | refine gN ?_ | exact gNc | (refine gI ?_ ?_ <;> intro hyp <;> first | refine goF ?_ | exact goFc | refine goT ?_ | exact goTc | skip))
    refine beginY_n (g2.trans (by rw [hV])) ?_
    replace fx := aI @g0 (aI @e1 (aI @e2 @byteV_eq))
    (first | refine go ?_ | exact goC | skip); repeat' (first | refine gP ?_ | exact gPc | refine gN ?_ | exact gNc | (refine gI ?_ ?_ <;> intro hyp <;> first | refine goF ?_ | exact goFc | refine goT ?_ | exact goTc | skip))
    refine afterY_n (by rw [get_put_ne (by omega)]; exact get_put_old g2) ?_
    rw [hnd]
    refine ⟨rfl, ?_, ?_, ?_⟩
    · rw [get_put_ne (by omega)]
      exact get_put_old ((get_put_ne (by omega)).trans g0)
    · rw [get_put_ne (by omega), get_put_ne (by omega), get_put_ne (by omega)]; exact g1
    · exact get_put_old ((get_put_ne (by omega)).trans (get_put_old g2))
  · rw [hn]
    rintro r h' ⟨g0, g1, g2⟩
    refine afterL_n g2 ?_
    rw [hV]
    replace fx := aI @g0 @List.drop_zero.{0}
    (first | refine go ?_ | exact goC | skip); repeat' (first | refine gP ?_ | exact gPc | refine gN ?_ | exact gNc | (refine gI ?_ ?_ <;> intro hyp <;> first | refine goF ?_ | exact goFc | refine goT ?_ | exact goTc | skip))
theorem copy_src {h : Heap} {x off2 k : Nat} {mx : Bool} {sx : Nat} {ax : Bool} {m : List UInt8} (hx : h.get x = some (.row mx sx ax (m.map byteV))) (hk : off2 + k ≤ m.length) : elemsA h 1 (.ref x off2 k 1) = some (((m.drop off2).take k).map byteV) := by
  simp only [elemsA, if_true, hx, List.length_map, Nat.mul_one]
  rw [if_pos hk, List.map_take, List.map_drop]
theorem copy_to {h : Heap} {id off n : Nat} {S : Nat} {ag : Bool} {l : List UInt8} (hg : h.get id = some (.row true S ag (l.map byteV))) (hn : off + n ≤ l.length) {y : AVal} {t : List UInt8} (hl : lenA y = some t.length) (he : elemsA h 1 y = some (t.map byteV)) :
    copyA 1 (.ref id off n 1) y h = some (.int .i64 ((min t.length n : Nat) : Int), h.put id (some (.row true S ag ((putB l off (t.take n)).map byteV)))) := by
  have hc : off + n * 1 ≤ (l.map byteV).length := by rw [List.length_map]; omega
  have ho : (t.map byteV).all AVal.one = true := bytes_all t
  simp only [copyA, hl, he, hg, hc, ho, and_self, if_true]
  have ht : (t.map byteV).take (min t.length n * 1) = (t.take n).map byteV := by
    rw [Nat.mul_one, ← List.map_take, Nat.min_comm, ← List.take_take, List.take_length]
  rw [ht, setCells_mid _ _ _ (by simp; omega)]
  simp only [putB, List.map_append, List.map_take, List.map_drop, List.length_map, List.length_take]
theorem copy_s {h : Heap} {id off n : Nat} {S : Nat} {ag : Bool} {l : List UInt8} (hg : h.get id = some (.row true S ag (l.map byteV))) (hn : off + n ≤ l.length) (t : List UInt8) :
    copyA 1 (.ref id off n 1) (.str t) h = some (.int .i64 ((min t.length n : Nat) : Int), h.put id (some (.row true S ag ((putB l off (t.take n)).map byteV)))) := copy_to hg hn rfl rfl
theorem copy_r {h : Heap} {id off n x off2 k : Nat} {S : Nat} {ag : Bool} {l m : List UInt8} {mx : Bool} {sx : Nat} {ax : Bool} (hg : h.get id = some (.row true S ag (l.map byteV))) (hn : off + n ≤ l.length)
    (hx : h.get x = some (.row mx sx ax (m.map byteV))) (hk : off2 + k ≤ m.length) :
    copyA 1 (.ref id off n 1) (.ref x off2 k 1) h = some (.int .i64 ((min k n : Nat) : Int), h.put id (some (.row true S ag ((putB l off (((m.drop off2).take k).take n)).map byteV)))) := by
  have hl : ((m.drop off2).take k).length = k := by rw [List.length_take, List.length_drop]; omega
  have := copy_to hg hn (y := .ref x off2 k 1) (t := (m.drop off2).take k) (by rw [hl]; rfl) (copy_src hx hk)
  rw [hl] at this
  exact this
theorem putB_set {l : List UInt8} {off k : Nat} {t : List UInt8} (x : UInt8) (hk : t.length = k) (h : off + k < l.length) : (putB l off t).set (off + k) x = putB l off (t ++ [x]) := by
  subst hk
  rw [putB, putB, ← List.append_assoc, List.set_append_right _ _ (by rw [List.length_append, List.length_take]; omega), List.length_append, List.length_take, show off + t.length - (min off l.length + t.length) = 0 by omega,
    List.drop_eq_getElem_cons (show off + t.length < l.length by omega), List.set_cons_zero, List.append_assoc, List.append_assoc]
  simp [List.append_assoc, Nat.add_assoc]
theorem putB_nil (l : List UInt8) (off : Nat) : putB l off [] = l := by simp [putB]
theorem set_one {α : Type} (l : List α) (f : α → AVal) (i : Nat) (x : α) : (l.map f).set i (f x) = (l.set i x).map f := List.map_set.symm
theorem shr256 (m : Nat) : binA .shr .arith (.int .i64 (m : Int)) (.int .u64 8) = some (.int .i64 ((m / 256 : Nat) : Int)) := by
  have e3 : IntKind.i64.bits = 64 := rfl
  have h0 : ¬ ((8 : Int) < 0) := by omega
  have e : (2 : Int) ^ 8 = ((256 : Nat) : Int) := rfl
  simp only [binA, shiftA, if_true, or_true, true_or, reduceCtorEq, h0, if_false, e3]
  rw [show min (Int.toNat 8) 64 = 8 from rfl, e, Int.fdiv_eq_ediv_of_nonneg _ (Int.natCast_nonneg _), ← Int.natCast_ediv]
theorem put_c {h : Heap} {id off n S : Nat} {ag : Bool} {l : List UInt8} (hg : h.get id = some (.row true S ag (l.map byteV))) (hl : off + n ≤ l.length) (hn : n ≤ 100) (m : Nat) (hm : m < 9223372036854775808) :
    CV F 91 [.ref id off n 1, .int .i64 (m : Int)] h (fun _ h' => h'.get id = some (.row true S ag ((putB l off (Jn.small m n)).map byteV)) ∧ Fr (fun j => j = id) h h') := by
  refine CV_wp (fn := c91) rfl ?_
  dsimp only [oT, oN, oV, oG, oW, c91]
  replace fx := Dum_eq
  (first | refine go ?_ | exact goC | skip); repeat' (first | refine gP ?_ | exact gPc | refine gN ?_ | exact gNc | (refine gI ?_ ?_ <;> intro hyp <;> first | refine goF ?_ | exact goFc | refine goT ?_ | exact goTc | skip))
  refine w_loop (fun q vs h' => ∃ (k : Nat) (x1 x2 : AVal), q = n - k ∧ k ≤ n ∧ vs = [.ref id off n 1, .int .i64 ((m / 256 ^ k : Nat) : Int), x1, .int .i64 (n : Int), .int .i64 (k : Int), x2] ∧ h'.get id = some (.row true S ag ((putB l off (Jn.small m k)).map byteV)) ∧ Fr (fun j => j = id) h h') n
    ⟨0, _, _, rfl, by omega, by rw [Nat.pow_zero, Nat.div_one]; rfl, by rw [show Jn.small m 0 = [] from rfl, putB_nil]; exact hg, Fr.refl _ _⟩ ?_
  rintro q vs h' ⟨k, x1, x2, rfl, hk, rfl, g, f⟩
  have hle : m / 256 ^ k ≤ m := Nat.div_le_self _ _
  have hq1 : m / 256 ^ (k + 1) = m / 256 ^ k / 256 := by rw [Nat.pow_succ, ← Nat.div_div_eq_div_mul]
  have ss := small_succ m k
  have sl := small_len m k
  obtain ⟨q, hq⟩ : ∃ q, q = m / 256 ^ k := ⟨_, rfl⟩
  rw [← hq] at hle hq1 ss ⊢
  clear hq
  by_cases hkn : k < n
  · have hpl : (putB l off (Jn.small m k)).length = l.length := putB_len _ (by rw [sl]; omega)
    have e3 : toIntA .u8 (.int .i64 (q : Int)) = some (byteV (UInt8.ofNat q)) := toU8 _ _
    have sh := shr256 q
    obtain ⟨r, hr⟩ : ∃ r, r = q / 256 := ⟨_, rfl⟩
    rw [← hr] at sh hq1
    clear hr
    replace fx := aI @g (aI @e3 (aI @sh (aI @hpl (aI @byte_cells @byte_one))))
    (first | refine go ?_ | exact goC | skip); repeat' (first | refine gP ?_ | exact gPc | refine gN ?_ | exact gNc | (refine gI ?_ ?_ <;> intro hyp <;> first | refine goF ?_ | exact goFc | refine goT ?_ | exact goTc | skip))
    refine lp_n ⟨_, by omega, k + 1, _, _, rfl, by omega, by rw [hq1]; push_cast; rfl, ?_, f.put (.inl rfl) _⟩
    rw [get_put_old g, ss, Nat.mul_one, ← putB_set _ sl (by omega), ← set_one]
  · have e : k = n := by omega
    subst e
    replace fx := Dum_eq
    (first | refine go ?_ | exact goC | skip); repeat' (first | refine gP ?_ | exact gPc | refine gN ?_ | exact gNc | (refine gI ?_ ?_ <;> intro hyp <;> first | refine goF ?_ | exact goFc | refine goT ?_ | exact goTc | skip))
    exact ⟨g, f⟩
end Go.Proofs.YtjofjgflcogklaaGreatDoor

namespace Go.Abs
theorem Fr.fresh {h h1 h2 : Heap} {a : Nat} (f : Fr (fun _ => False) h h1) (g : Fr (fun j => j = a) h1 h2) (ha : h.next ≤ a) : Fr (fun _ => False) h h2 :=
  ⟨Nat.le_trans f.1 g.1, fun j hj _ => by
    have := f.1
    rw [g.2 j (by omega) (by intro e; omega)]; exact f.2 j hj (fun q => q)⟩
theorem push_eqs {h hp : Heap} {o : Obj} (e : hp = h.push o) {j : Nat} {x : Obj} (g : h.get j = some x) : hp.get j = some x := by rw [e]; exact get_push_old g
end Go.Abs
namespace Go.Proofs.YtjofjgflcogklaaGreatDoor
open Go Go.Abs Go.Sha Go.Jn
theorem pur_sl (h : Heap) (xs : List AVal) (tk : Tok) : ∃ t', purify h (.sl xs tk) = some (.sl xs t') := by
  cases tk with
  | none => exact ⟨_, pu_none h xs⟩
  | nil => exact ⟨_, pu_nil h xs⟩
  | own i s => exact ⟨_, pu_own h xs i s⟩
  | full => exact ⟨.none, by simp only [purify]⟩
theorem purI {h : Heap} {x : AVal} {k : IntKind} {n : Int} (e : purify h x = some (.int k n)) : x = .int k n := by
  cases x with
  | int k' n' => rw [pu_int] at e; exact Option.some.inj e
  | sl xs t => obtain ⟨t', e'⟩ := pur_sl h xs t; rw [e'] at e; simp at e
  | ref => rw [pu_ref] at e; simp at e
  | agg cs => rw [pu_agg] at e; simp at e
  | tup cs => rw [pu_tup] at e; simp at e
  | fn f cs => simp only [purify, Option.map_eq_some_iff] at e; obtain ⟨_, _, e⟩ := e; simp at e
  | _ => simp [purify] at e
theorem purB {h : Heap} : ∀ {cs : List AVal} {l : List UInt8}, purifyL h cs = some (l.map byteV) → cs = l.map byteV
  | [], [], _ => rfl
  | [], _ :: _, e => by simp [purifyL] at e
  | x :: cs, l, e => by
    rw [puL_cons] at e
    cases hx : purify h x with
    | none => rw [hx] at e; simp [sc] at e
    | some x' =>
      cases hc : purifyL h cs with
      | none => rw [hx, hc] at e; simp [sc] at e
      | some c' =>
        rw [hx, hc] at e
        simp only [sc, Option.some.injEq] at e
        cases l with
        | nil => simp at e
        | cons b l =>
          simp only [List.map_cons, List.cons.injEq] at e
          obtain ⟨rfl, rfl⟩ := e
          rw [purI hx, purB hc]; rfl
theorem hash_cv (b : List UInt8) (hl : b.length ≤ 900000) : CV F 75 [.sl (b.map byteV) .none] Heap.empty (fun v _ => v = .agg ((sum b).map byteV)) := by
  have e := hash_v b hl
  unfold PV at e
  split at e
  · rename_i r h' hg
    refine ⟨r, h', of_GV hg, ?_⟩
    cases r with
    | int k' n' => rw [pu_int] at e; simp at e
    | sl xs t => obtain ⟨t', e'⟩ := pur_sl h' xs t; rw [e'] at e; simp at e
    | ref => rw [pu_ref] at e; simp at e
    | agg cs =>
      rw [pu_agg, Option.map_eq_some_iff] at e
      obtain ⟨c, hc, e⟩ := e
      simp only [AVal.agg.injEq] at e
      subst e
      rw [purB hc]
    | tup cs => rw [pu_tup] at e; simp at e
    | fn f cs => simp only [purify, Option.map_eq_some_iff] at e; obtain ⟨_, _, e⟩ := e; simp at e
    | _ => simp [purify] at e
  · simp at e
theorem parts_c (n : Int) (t : Bs) (h : Heap) : CV F 74 [.int .i64 n, .str t] h (fun v h' => v = .fn 90 [.ptr (h.next + 1) 0, .ptr h.next 0] ∧ h' = (h.push (.row true 0 false [.int .i64 n])).push (.row true 0 false [.str t])) := by
  refine CV_wp (fn := c74) rfl ?_
  dsimp only [oT, oN, oV, oG, oW, c74]
  replace fx := Dum_eq
  (first | refine go ?_ | exact goC | skip); repeat' (first | refine gP ?_ | exact gPc | refine gN ?_ | exact gNc | (refine gI ?_ ?_ <;> intro hyp <;> first | refine goF ?_ | exact goFc | refine goT ?_ | exact goTc | skip))
theorem zrow (n : Nat) (hn : n = 64 ∨ n = 32) : (List.replicate n (AVal.int .u8 0)) = (List.replicate n (0 : UInt8)).map byteV := by rw [List.map_replicate]; rfl
theorem putB_app (a : List UInt8) (m : Nat) (t : List UInt8) (h : t.length ≤ m) : putB (a ++ List.replicate m 0) a.length t = (a ++ t) ++ List.replicate (m - t.length) 0 := by
  rw [putB, List.take_left' rfl, List.append_assoc]
  congr 2
  rw [← List.drop_drop, List.drop_left' rfl, List.drop_replicate]
theorem sec_steps (N k : Nat) (rest : Bs) (b1 b2 b3 b4 : List UInt8) (hb1 : b1 = putB (List.replicate 64 0) 0 (Jn.small N 4)) (hb2 : b2 = putB b1 4 (Jn.small k 2)) (hb3 : b3 = putB b2 6 (Jn.small rest.length 2)) (hb4 : b4 = putB b3 8 (rest.take 48)) :
    b1.length = 64 ∧ b2.length = 64 ∧ b3.length = 64 ∧ b4.length = 64 ∧ b4.take 56 = body N k rest ∧ ∀ s : List UInt8, s.length = 8 → putB b4 56 s = body N k rest ++ s := by
  have s4 := small_len N 4
  have s2 := small_len k 2
  have s3 := small_len rest.length 2
  have e1 : b1 = Jn.small N 4 ++ List.replicate 60 0 := by
    have := putB_app [] 64 (Jn.small N 4) (by omega)
    rw [s4] at this; rw [hb1]; exact this
  have e2 : b2 = (Jn.small N 4 ++ Jn.small k 2) ++ List.replicate 58 0 := by
    have := putB_app (Jn.small N 4) 60 (Jn.small k 2) (by omega)
    rw [s4, s2] at this; rw [hb2, e1]; exact this
  have e3 : b3 = (Jn.small N 4 ++ Jn.small k 2 ++ Jn.small rest.length 2) ++ List.replicate 56 0 := by
    have := putB_app (Jn.small N 4 ++ Jn.small k 2) 58 (Jn.small rest.length 2) (by omega)
    rw [List.length_append, s4, s2, s3] at this; rw [hb3, e2]; exact this
  have e4 : b4 = body N k rest ++ List.replicate 8 0 := by
    have := putB_app (Jn.small N 4 ++ Jn.small k 2 ++ Jn.small rest.length 2) 56 (rest.take 48) (by rw [List.length_take]; omega)
    rw [List.length_append, List.length_append, s4, s2, s3] at this
    rw [hb4, e3, show (8 : Nat) = 4 + 2 + 2 from rfl, this]
    have e : List.replicate (56 - (rest.take 48).length) (0 : UInt8) = List.replicate (48 - rest.length) 0 ++ List.replicate 8 0 := by
      rw [List.replicate_append_replicate]; congr 1; rw [List.length_take]; omega
    rw [e, body]
    simp only [List.append_assoc]
  have bl := body_len N k rest
  refine ⟨by rw [e1]; simp [s4], by rw [e2]; simp [s4, s2], by rw [e3]; simp [s4, s2, s3], by rw [e4]; simp [bl], by rw [e4, List.take_left' bl], fun s hs => ?_⟩
  have := putB_app (body N k rest) 8 s (by omega)
  rw [bl, hs] at this
  rw [e4, this]; simp
theorem parts1_c (N : Nat) (t : Bs) (hN : N ≤ 4096) (ht : t.length ≤ 8000) {H : Heap} {id c1 c2 : Nat} {I : Nat → Heap → Prop} (h0 : I 0 H)
    (hbox : ∀ k h, I k h → h.get c1 = some (.row true 0 false [.str t]) ∧ h.get c2 = some (.row true 0 false [.int .i64 (N : Int)]))
    (hfr : ∀ k h h', I k h → Fr (fun _ => False) h h' → I k h')
    (step : ∀ k h, k < count t.length → I k h → YV F id [.agg ((sector N t k).map byteV)] h (fun v h' => v = .bool true ∧ I (k + 1) h')) :
    CV F 90 [.yld id, .ptr c1 0, .ptr c2 0] H (fun _ h' => I (count t.length) h') := by
  have hc := count_v t.length
  refine CV_wp (fn := c90) rfl ?_
  dsimp only [oT, oN, oV, oG, oW, c90]
  obtain ⟨g1, g2⟩ := hbox _ _ h0
  replace fx := aI @g1 @hc
  (first | refine go ?_ | exact goC | skip); repeat' (first | refine gP ?_ | exact gPc | refine gN ?_ | exact gNc | (refine gI ?_ ?_ <;> intro hyp <;> first | refine goF ?_ | exact goFc | refine goT ?_ | exact goTc | skip))
  clear g1 g2
  refine w_loop (fun m vs h => ∃ (k : Nat) (x1 x2 x3 x4 x5 x6 : AVal), m = count t.length - k ∧ k ≤ count t.length ∧ vs = [.yld id, .ptr c1 0, .ptr c2 0, x1, x2, x3, x4, .int .i64 (count t.length : Int), .int .i64 (k : Int), x5, x6] ∧ I k h) (count t.length)
    ⟨0, _, _, _, _, _, _, rfl, by omega, rfl, h0⟩ ?_
  rintro m vs h ⟨k, x1, x2, x3, x4, x5, x6, rfl, hk, rfl, hI⟩
  obtain ⟨g1, g2⟩ := hbox _ _ hI
  by_cases hkc : k < count t.length
  · have hb := count_lt t.length (by omega) hkc
    have hcl := count_le t.length
    have T48 : (48 * (k : Int)).toNat = 48 * k := by omega
    obtain ⟨rest, hrest⟩ : ∃ rest, rest = t.drop (48 * k) := ⟨_, rfl⟩
    have hrl : rest.length ≤ 8000 := by rw [hrest, List.length_drop]; omega
    have hsec := sec_steps N k rest
    obtain ⟨b1, hb1⟩ : ∃ b, b = putB (List.replicate 64 0) 0 (Jn.small N 4) := ⟨_, rfl⟩
    obtain ⟨b2, hb2⟩ : ∃ b, b = putB b1 4 (Jn.small k 2) := ⟨_, rfl⟩
    obtain ⟨b3, hb3⟩ : ∃ b, b = putB b2 6 (Jn.small rest.length 2) := ⟨_, rfl⟩
    obtain ⟨b4, hb4⟩ : ∃ b, b = putB b3 8 (rest.take 48) := ⟨_, rfl⟩
    obtain ⟨hs1, hs2, hs3, hs4, hs5, hs6⟩ := hsec b1 b2 b3 b4 hb1 hb2 hb3 hb4
    obtain ⟨z, hz⟩ : ∃ z, z = List.replicate 64 (0 : UInt8) := ⟨_, rfl⟩
    obtain ⟨y, hy⟩ : ∃ y, y = List.replicate 32 (0 : UInt8) := ⟨_, rfl⟩
    have zl : z.length = 64 := by rw [hz]; simp
    have yl : y.length = 32 := by rw [hy]; simp
    have zo := bytes_all z
    have yo := bytes_all y
    rw [zrow 64 (.inl rfl), zrow 32 (.inr rfl), ← hz, ← hy]
    rw [← hz] at hb1
    have l1 := get_lt g1
    have l2 := get_lt g2
    replace fx := aI @g1 (aI @g2 (aI @T48 (aI @aR (aI @bR (aI @zl @zo)))))
    (first | refine go ?_ | exact goC | skip); repeat' (first | refine gP ?_ | exact gPc | refine gN ?_ | exact gNc | (refine gI ?_ ?_ <;> intro hyp <;> first | refine goF ?_ | exact goFc | refine goT ?_ | exact goTc | skip))
    refine CV_mono (put_c (l := z) (off := 0) (n := 4) (get_push_eq rfl) (by omega) (by omega) N (by omega)) ?_
    rintro v h1 ⟨q1, f1⟩
    rw [← hb1] at q1
    rw [← hrest]
    have F1 := Fr.fresh (Fr.push (Fr.refl _ h) _) f1 (Nat.le_refl _)
    obtain ⟨a, ha⟩ : ∃ a, a = h.next := ⟨_, rfl⟩
    rw [← ha] at q1 ⊢
    replace fx := aI @q1 (aI @aR (aI @bR @hs1))
    (first | refine go ?_ | exact goC | skip); repeat' (first | refine gP ?_ | exact gPc | refine gN ?_ | exact gNc | (refine gI ?_ ?_ <;> intro hyp <;> first | refine goF ?_ | exact goFc | refine goT ?_ | exact goTc | skip))
    refine CV_mono (put_c q1 (by omega) (by omega) k (by omega)) ?_
    rintro v h2 ⟨q2, f2⟩
    have F2 := Fr.fresh F1 f2 (by omega)
    rw [← hb2] at q2
    replace fx := aI @q2 (aI @aR (aI @bR @hs2))
    (first | refine go ?_ | exact goC | skip); repeat' (first | refine gP ?_ | exact gPc | refine gN ?_ | exact gNc | (refine gI ?_ ?_ <;> intro hyp <;> first | refine goF ?_ | exact goFc | refine goT ?_ | exact goTc | skip))
    refine CV_mono (put_c q2 (by omega) (by omega) rest.length (by omega)) ?_
    rintro v h3 ⟨q3, f3⟩
    have F3 := Fr.fresh F2 f3 (by omega)
    rw [← hb3] at q3
    have cp := copy_s q3 (show 8 + 48 ≤ b3.length by omega) rest
    rw [← hb4] at cp
    replace fx := aI @q3 (aI @aR (aI @bR (aI @hs3 @cp)))
    (first | refine go ?_ | exact goC | skip); repeat' (first | refine gP ?_ | exact gPc | refine gN ?_ | exact gNc | (refine gI ?_ ?_ <;> intro hyp <;> first | refine goF ?_ | exact goFc | refine goT ?_ | exact goTc | skip))
    have q4 := get_put_old (o := some (Obj.row true (typed 96) true (b4.map byteV))) q3
    obtain ⟨h4, hh4⟩ : ∃ h4, h4 = h3.put a (some (Obj.row true (typed 96) true (b4.map byteV))) := ⟨_, rfl⟩
    have F4 : Fr (fun _ => False) h h4 := by rw [hh4]; exact F3.put (.inr (by omega)) _
    rw [← hh4] at q4 ⊢
    obtain ⟨r, hh, gv, rfl⟩ := hash_cv (body N k rest) (by rw [body_len]; omega)
    refine ⟨[.sl ((body N k rest).map byteV) .none], by rw [pu_bytes q4 (by decide) (by omega), List.drop_zero, hs5]; rfl, _, _, GV_of gv, scal_bytes _, ?_⟩
    have sl := sum_len (body N k rest)
    have so := bytes_all (sum (body N k rest))
    obtain ⟨S, hS⟩ : ∃ S, S = sum (body N k rest) := ⟨_, rfl⟩
    rw [← hS] at sl so ⊢
    have st := set_bytes y S (by rw [yl, sl])
    have q5 : ∀ o, (h4.push o).get a = _ := fun o => get_push_old q4
    replace fx := aI @q4 (aI @q5 (aI @aR (aI @bR (aI @hs4 (aI @yl (aI @yo (aI @sl (aI @so @st))))))))
    (first | refine go ?_ | exact goC | skip); repeat' (first | refine gP ?_ | exact gPc | refine gN ?_ | exact gNc | (refine gI ?_ ?_ <;> intro hyp <;> first | refine goF ?_ | exact goFc | refine goT ?_ | exact goTc | skip))
    have cp2 := copy_r (q5 (.row true (typed 125) true (S.map byteV))) (show 56 + 8 ≤ b4.length by omega) (get_push_eq rfl) (show 0 + 32 ≤ S.length by omega)
    have hsec2 : putB b4 56 (((S.drop 0).take 32).take 8) = sector N t k := by
      rw [List.drop_zero, List.take_of_length_le (show S.length ≤ 32 by omega), hs6 _ (by rw [List.length_take]; omega), hS, sector, ← hrest]; rfl
    rw [hsec2] at cp2
    have slen := sector_len N t k
    obtain ⟨sec, hsc⟩ : ∃ sec, sec = sector N t k := ⟨_, rfl⟩
    have st1 := step k
    rw [← hsc] at cp2 slen st1
    have stk : (sec.map byteV).take 64 = sec.map byteV := List.take_of_length_le (by rw [List.length_map, slen]; omega)
    have q6 : ∀ o o', ((h4.push o).put a o').get a = o' := fun o o' => get_put_old (q5 o)
    replace fx := aI @cp2 (aI @q6 (aI @slen @stk))
    (first | refine go ?_ | exact goC | skip); repeat' (first | refine gP ?_ | exact gPc | refine gN ?_ | exact gNc | (refine gI ?_ ?_ <;> intro hyp <;> first | refine goF ?_ | exact goFc | refine goT ?_ | exact goTc | skip))
    refine YV_mono (st1 _ hkc (hfr _ _ _ hI ((F4.push _).put (.inr (by omega)) _))) ?_
    rintro v h' ⟨rfl, hI'⟩
    replace fx := Dum_eq
    (first | refine go ?_ | exact goC | skip); repeat' (first | refine gP ?_ | exact gPc | refine gN ?_ | exact gNc | (refine gI ?_ ?_ <;> intro hyp <;> first | refine goF ?_ | exact goFc | refine goT ?_ | exact goTc | skip))
    exact lp_n ⟨_, by omega, k + 1, _, _, _, _, _, _, rfl, by omega, by push_cast; rfl, hI'⟩
  · have e : k = count t.length := by omega
    subst e
    replace fx := Dum_eq
    (first | refine go ?_ | exact goC | skip); repeat' (first | refine gP ?_ | exact gPc | refine gN ?_ | exact gNc | (refine gI ?_ ?_ <;> intro hyp <;> first | refine goF ?_ | exact goFc | refine goT ?_ | exact goTc | skip))
    exact hI
theorem pack_c (n : Int) (t : Bs) (ht : t.length ≤ 100000) : CV F 40 [.int .i64 n, .str t] Heap.empty (fun v h' => purify h' v = some (packV n t)) := by
  refine CV_wp (fn := c40) rfl ?_
  dsimp only [oT, oN, oV, oG, oW, c40]
  unfold packV
  by_cases h1 : n < 1 ∨ 4096 < n
  · rw [if_pos h1]
    replace fx := Dum_eq
    (first | refine go ?_ | exact goC | skip); repeat' (first | refine gP ?_ | exact gPc | refine gN ?_ | exact gNc | (refine gI ?_ ?_ <;> intro hyp <;> first | refine goF ?_ | exact goFc | refine goT ?_ | exact goTc | skip))
  · rw [if_neg h1]
    by_cases h2 : 8000 < t.length
    · rw [if_pos h2]
      replace fx := Dum_eq
      (first | refine go ?_ | exact goC | skip); repeat' (first | refine gP ?_ | exact gPc | refine gN ?_ | exact gNc | (refine gI ?_ ?_ <;> intro hyp <;> first | refine goF ?_ | exact goFc | refine goT ?_ | exact goTc | skip))
    · rw [if_neg h2]
      obtain ⟨N, rfl⟩ : ∃ N : Nat, n = (N : Int) := ⟨n.toNat, by omega⟩
      replace fx := Dum_eq
      (first | refine go ?_ | exact goC | skip); repeat' (first | refine gP ?_ | exact gPc | refine gN ?_ | exact gNc | (refine gI ?_ ?_ <;> intro hyp <;> first | refine goF ?_ | exact goFc | refine goT ?_ | exact goTc | skip))
      refine CV_mono (parts_c _ _ _) ?_
      rintro v h1 ⟨rfl, rfl⟩
      replace fx := Dum_eq
      (first | refine go ?_ | exact goC | skip); repeat' (first | refine gP ?_ | exact gPc | refine gN ?_ | exact gNc | (refine gI ?_ ?_ <;> intro hyp <;> first | refine goF ?_ | exact goFc | refine goT ?_ | exact goTc | skip))
      obtain ⟨V, hV⟩ : ∃ V, V = [AVal.int .i64 (N : Int), .str t, .sl [] .nil, .int .i64 0, .ptr 0 0, .tup [], .bool (decide ((4096 : Int) < N)), .bool (decide ((8000 : Int) < t.length)), .fn 90 [.ptr 2 0, .ptr 1 0], .tup []] := ⟨_, rfl⟩
      obtain ⟨H, hH⟩ : ∃ H, H = (((Heap.empty.push (Obj.row true (typed 22) false [AVal.sl [] Tok.nil])).push (Obj.row true 0 false [AVal.int IntKind.i64 (N : Int)])).push (Obj.row true 0 false [AVal.str t])) := ⟨_, rfl⟩
      have hn : H.next = 3 := by rw [hH]; rfl
      have e0 : H.get 0 = some (Obj.row true (typed 22) false [AVal.sl [] Tok.nil]) := by rw [hH]; rfl
      have e1 : H.get 1 = some (Obj.row true 0 false [AVal.int IntKind.i64 (N : Int)]) := by rw [hH]; rfl
      have e2 : H.get 2 = some (Obj.row true 0 false [AVal.str t]) := by rw [hH]; rfl
      rw [← hH, ← hV]
      have hcl := count_le t.length
      refine w_rfuncC (by rw [hV]; rfl) (CV_mono (parts1_c N t (by omega) (by omega) (I := fun k h => (∃ tk, h.get 0 = some (.row true (typed 22) false [.sl (((pack N t).take k).map AVal.str) tk]) ∧ Gr h 9 1 ((pack N t).take k) tk) ∧ h.get 1 = some (Obj.row true 0 false [AVal.int IntKind.i64 (N : Int)]) ∧ h.get 2 = some (Obj.row true 0 false [AVal.str t]) ∧ h.get 3 = some (.lrec .ready 40 0 [0, 1, 4, 5, 6, 7, 8, 15, 21, 22] V))
        ⟨⟨_, ?_, Gr.nil _ _ _⟩, ?_, ?_, ?_⟩ (fun k h g => ⟨g.2.2.1, g.2.1⟩) ?_ ?_) ?_)
      · rw [get_push_ne (by omega)]; exact e0
      · rw [get_push_ne (by omega)]; exact e1
      · rw [get_push_ne (by omega)]; exact e2
      · exact get_push_eq hn.symm
      · rintro k h h' ⟨⟨tk, g0, G⟩, g1, g2, g3⟩ f
        exact ⟨⟨tk, f.get g0 (fun q => q), G.fr f (fun _ _ _ q => q)⟩, f.get g1 (fun q => q), f.get g2 (fun q => q), f.get g3 (fun q => q)⟩
      · rw [hn]
        rintro k h hk ⟨⟨tk, g0, G⟩, g1, g2, g3⟩
        refine y_wp g3 rfl rfl rfl rfl ?_
        dsimp only [oT, oN, oV, oG, oW, c40, c40L0]
        rw [hV]
        simp only [setPs, List.set_cons_succ, List.set_cons_zero]
        have hz := zrow 64 (.inl rfl)
        obtain ⟨z, hzz⟩ : ∃ z, z = List.replicate 64 (0 : UInt8) := ⟨_, rfl⟩
        have zl : z.length = 64 := by rw [hzz]; simp
        have zo := bytes_all z
        have slen := sector_len N t k
        have hpt := pack_take N t hk
        obtain ⟨sec, hsc⟩ : ∃ sec, sec = sector N t k := ⟨_, rfl⟩
        rw [← hsc] at slen hpt ⊢
        have so := bytes_all sec
        have sst := set_bytes z sec (by rw [zl, slen])
        rw [hz, ← hzz]
        have l3 := get_lt g3
        replace fx := aI @zl (aI @zo (aI @so (aI @slen @sst)))
        (first | refine go ?_ | exact goC | skip); repeat' (first | refine gP ?_ | exact gPc | refine gN ?_ | exact gNc | (refine gI ?_ ?_ <;> intro hyp <;> first | refine goF ?_ | exact goFc | refine goT ?_ | exact goTc | skip))
        refine beginY_n ((get_push_ne (by omega)).trans (g3.trans (by rw [hV]))) ?_
        rw [put_push_ne _ (by omega)]
        obtain ⟨h2, hh2⟩ : ∃ h2, h2 = h.put 3 (some (.lrec .busy 40 0 [0, 1, 4, 5, 6, 7, 8, 15, 21, 22] V)) := ⟨_, rfl⟩
        have n2 : h2.next = h.next := by rw [hh2, put_next]
        have k0 : h2.get 0 = h.get 0 := by rw [hh2, get_put_ne (by omega)]
        rw [g0] at k0
        have k1 : h2.get 1 = h.get 1 := by rw [hh2, get_put_ne (by omega)]
        rw [g1] at k1
        have k2 : h2.get 2 = h.get 2 := by rw [hh2, get_put_ne (by omega)]
        rw [g2] at k2
        have k3 := get_put_old (o := some (.lrec .busy 40 0 [0, 1, 4, 5, 6, 7, 8, 15, 21, 22] V)) g3
        rw [← hh2] at k3
        have G2 : Gr h2 9 1 ((pack N t).take k) tk := by
          rcases G with G | ⟨i, e, G⟩
          · exact .inl G
          · exact .inr ⟨i, e, by rw [hh2, get_put_ne (by rintro rfl; rw [g3] at G; simp at G)]; exact G⟩
        rw [← hV, ← hh2, ← n2]
        clear hh2 g0 g1 g2 g3 G
        have T : sec.take 64 = sec := List.take_of_length_le (by omega)
        have ls : ∀ (x : Bs) H, litA 0 9 1 1 false [.str []] (some [.str x]) H = some (.sl ([x].map AVal.str) .none, H) := fun x H => lit_none rfl rfl rfl rfl
        have kr : ∀ o, (h2.push o).get h2.next = some o := fun o => get_push_eq rfl
        have l3' : 3 < h2.next := by omega
        replace fx := aI @k0 (aI @kr (aI @aR (aI @bR (aI @slen (aI @T @ls)))))
        (first | refine go ?_ | exact goC | skip); repeat' (first | refine gP ?_ | exact gPc | refine gN ?_ | exact gNc | (refine gI ?_ ?_ <;> intro hyp <;> first | refine goF ?_ | exact goFc | refine goT ?_ | exact goTc | skip))
        obtain ⟨hp, hhp⟩ : ∃ hp, hp = h2.push (Obj.row true (typed 96) true (sec.map byteV)) := ⟨_, rfl⟩
        have p0 := push_eqs hhp k0
        have p1 := push_eqs hhp k1
        have p2 := push_eqs hhp k2
        have p3 := push_eqs hhp k3
        have Gp : Gr hp 9 1 ((pack N t).take k) tk := G2.fr (S := fun _ => False) (by rw [hhp]; exact (Fr.refl _ _).push _) (fun _ _ _ q => q)
        rw [← hhp]
        clear hhp
        have lp3 := get_lt p3
        refine append_F (f := AVal.str) ((pack N t).take k) [sec] str_len (fun x => rfl) (fun x => rfl) rfl (elems_sl (l := [_]) str_len) Gp.toF (by rw [List.length_take]; simp; omega) (by omega) (by omega) (by omega) ?_
        intro h6 tk6 G6 n6 r6 o6
        rw [← hpt] at G6 ⊢
        have q0 := r6 _ _ _ _ _ p0
        have q1 := r6 _ _ _ _ _ p1
        have q2 := r6 _ _ _ _ _ p2
        have q3 : h6.get 3 = hp.get 3 := o6 3 lp3 (by
          rintro i s e rfl
          rcases Gp with ⟨_, e' | e'⟩ | ⟨j, e', g⟩
          · rw [e'] at e; simp at e
          · rw [e'] at e; simp at e
          · rw [e'] at e; simp only [Tok.own.injEq] at e; rw [e.1, p3] at g; simp at g)
        rw [p3] at q3
        replace fx := @q0
        (first | refine go ?_ | exact goC | skip); repeat' (first | refine gP ?_ | exact gPc | refine gN ?_ | exact gNc | (refine gI ?_ ?_ <;> intro hyp <;> first | refine goF ?_ | exact goFc | refine goT ?_ | exact goTc | skip))
        refine afterY_n ((get_put_ne (by omega)).trans q3) ?_
        refine ⟨rfl, ⟨tk6, ?_, ?_⟩, ?_, ?_, ?_⟩
        · rw [get_put_ne (by omega)]; exact get_put_old q0
        · rcases G6.1 with G6 | ⟨i, e, G6⟩
          · exact .inl G6
          · exact .inr ⟨i, e, by rw [get_put_ne (by rintro rfl; rw [q3] at G6; simp at G6), get_put_ne (by rintro rfl; rw [q0] at G6; simp at G6)]; exact G6⟩
        · rw [get_put_ne (by omega), get_put_ne (by omega)]; exact q1
        · rw [get_put_ne (by omega), get_put_ne (by omega)]; exact q2
        · exact get_put_old ((get_put_ne (by omega)).trans q3)
      · rw [hn]
        rintro r h' ⟨⟨tk, g0, G⟩, g1, g2, g3⟩
        refine afterL_n g3 ?_
        rw [hV]
        have ep : (pack N t).take (count t.length) = pack N t := List.take_of_length_le (by rw [pack_len]; omega)
        rw [ep] at g0
        replace fx := aI @g0 @get_put_ne
        (first | refine go ?_ | exact goC | skip); repeat' (first | refine gP ?_ | exact gPc | refine gN ?_ | exact gNc | (refine gI ?_ ?_ <;> intro hyp <;> first | refine goF ?_ | exact goFc | refine goT ?_ | exact goTc | skip))
        rw [ep] at G
        rcases G with ⟨e, _⟩ | ⟨i, rfl, _⟩
        · have e1 := congrArg List.length e
          rw [pack_len, List.length_nil] at e1
          have := count_pos t.length (by omega)
          omega
        · rfl
end Go.Proofs.YtjofjgflcogklaaGreatDoor

namespace Go.Abs
variable {F : Nat → Option AEnt}
theorem pu_bytes2 {l : List UInt8} {h : Heap} {id off n : Nat} {mu : Bool} {S : Nat} {ag : Bool} (g : h.get id = some (.row mu S ag (l.map byteV))) (hS : S ≠ 1 ∨ ag = false) (hl : off + n ≤ l.length) : purify h (.ref id off n 1) = some (.sl (((l.drop off).take n).map byteV) .none) := by
  by_cases h1 : S = 1
  · subst h1
    have ha : ag = false := by rcases hS with q | q <;> simp_all
    subst ha
    rw [pu_ref]
    have hr : readRef h id off n 1 = some (((l.drop off).take n).map byteV) := by
      unfold readRef
      simp only [g]
      rw [if_pos ⟨.inl trivial, by rw [List.length_map]; omega⟩]
      simp only [strip_bytes, Bool.false_and]
      have hc := chunkm (f := byteV) (sz := 1) byte_len false (fun x => rfl) ((l.drop off).take n) (((l.drop off).drop n).map byteV)
      have hn : ((l.drop off).take n).length = n := by rw [List.length_take, List.length_drop]; omega
      rw [hn] at hc
      have e : (l.map byteV).drop off = flat (((l.drop off).take n).map byteV) ++ ((l.drop off).drop n).map byteV := by
        rw [flat_byte, ← List.map_append, List.take_append_drop, List.map_drop]
      rw [e]; exact hc
    rw [hr]; rfl
  · exact pu_bytes g h1 hl
theorem lend1 {f : Nat} {h : Heap} {id off n S : Nat} {mu ag : Bool} {l : List UInt8} {r : AVal} {K : AVal → Prop} (g : h.get id = some (.row mu S ag (l.map byteV))) (hS : S ≠ 1 ∨ ag = false) (hl : off + n ≤ l.length)
    (c : CV F f [.sl (((l.drop off).take n).map byteV) .none] Heap.empty (fun v _ => v = r)) (hsc : scal r = true) (k : K r) :
    ∃ asx, sc (purify h (.ref id off n 1)) (some []) = some asx ∧ ∃ r h', GV F f asx Heap.empty = some (r, h') ∧ scal r = true ∧ K r := by
  obtain ⟨v, h', c, rfl⟩ := c
  exact ⟨[_], by rw [pu_bytes2 g hS hl]; rfl, _, _, GV_of c, hsc, k⟩
theorem lend2 {f : Nat} {h : Heap} {id off n S id2 off2 n2 S2 : Nat} {mu ag mu2 ag2 : Bool} {l l2 : List UInt8} {r : AVal} {K : AVal → Prop} (g : h.get id = some (.row mu S ag (l.map byteV))) (hS : S ≠ 1 ∨ ag = false) (hl : off + n ≤ l.length)
    (g2 : h.get id2 = some (.row mu2 S2 ag2 (l2.map byteV))) (hS2 : S2 ≠ 1 ∨ ag2 = false) (hl2 : off2 + n2 ≤ l2.length)
    (c : CV F f [.sl (((l.drop off).take n).map byteV) .none, .sl (((l2.drop off2).take n2).map byteV) .none] Heap.empty (fun v _ => v = r)) (hsc : scal r = true) (k : K r) :
    ∃ asx, sc (purify h (.ref id off n 1)) (sc (purify h (.ref id2 off2 n2 1)) (some [])) = some asx ∧ ∃ r h', GV F f asx Heap.empty = some (r, h') ∧ scal r = true ∧ K r := by
  obtain ⟨v, h', c, rfl⟩ := c
  exact ⟨[_, _], by rw [pu_bytes2 g hS hl, pu_bytes2 g2 hS2 hl2]; rfl, _, _, GV_of c, hsc, k⟩
end Go.Abs
namespace Go.Proofs.YtjofjgflcogklaaGreatDoor
open Go Go.Abs Go.Sha Go.Jn
theorem pack_v (n : Int) (t : Bs) (ht : t.length ≤ 100000) : PV F 40 [.int .i64 n, .str t] = some (packV n t) := by
  obtain ⟨r, h', g, e⟩ := pack_c n t ht
  exact PV_of g e
theorem equal_cv (a b : Bs) : CV F 77 [.sl (a.map byteV) .none, .sl (b.map byteV) .none] Heap.empty (fun v _ => v = .bool (decide (a = b))) := by
  refine CV_wp (fn := c77) rfl ?_
  dsimp only [oT, oN, oV, oG, oW, c77]
  replace fx := Dum_eq
  (first | refine go ?_ | exact goC | skip); repeat' (first | refine gP ?_ | exact gPc | refine gN ?_ | exact gNc | (refine gI ?_ ?_ <;> intro hyp <;> first | refine goF ?_ | exact goFc | refine goT ?_ | exact goTc | skip))
theorem checked_iff (s : Bs) (h : s.length = 64) : checked (s.take 56) = s ↔ (sum (s.take 56)).take 8 = s.drop 56 := by
  have e : s = s.take 56 ++ s.drop 56 := (List.take_append_drop 56 s).symm
  have hl : (s.take 56).length = 56 := by rw [List.length_take]; omega
  unfold checked
  constructor
  · intro q
    have := congrArg (List.drop 56) q
    rwa [List.drop_left' hl] at this
  · intro q
    rw [q]; exact e.symm
theorem repl_b (n : Nat) : repl n [AVal.int .u8 0] = (List.replicate n (0 : UInt8)).map byteV := by
  induction n with
  | zero => rfl
  | succ n ih => rw [List.replicate_succ, List.map_cons, ← ih]; rfl
theorem unpack_v (s : Bs) (hs : s.length ≤ 1000000) : PV F 49 [.str s] = some (partV (unpack s)) := by
  have hz := zrow 64 (.inl rfl)
  have hy := zrow 32 (.inr rfl)
  obtain ⟨z, hzz⟩ : ∃ z, z = List.replicate 64 (0 : UInt8) := ⟨_, rfl⟩
  obtain ⟨y, hyy⟩ : ∃ y, y = List.replicate 32 (0 : UInt8) := ⟨_, rfl⟩
  have zl : z.length = 64 := by rw [hzz]; simp
  have yl : y.length = 32 := by rw [hyy]; simp
  have zo := bytes_all z
  have yo := bytes_all y
  refine PV_wp (fn := c49) rfl ?_
  dsimp only [oT, oN, oV, oG, oW, c49]
  rw [hz, hy, ← hzz, ← hyy]
  by_cases h64 : s.length = 64
  · have so := bytes_all s
    have sst := set_bytes z s (by rw [zl, h64])
    have stk : (s.map byteV).take 64 = s.map byteV := List.take_of_length_le (by rw [List.length_map]; omega)
    have tk : s.take 64 = s := List.take_of_length_le (by omega)
    replace fx := aI @zl (aI @yl (aI @zo (aI @yo (aI @so (aI @sst (aI @stk (aI @tk (aI @h64 (aI @aR @bR)))))))))
    (first | refine go ?_ | exact goC | skip); repeat' (first | refine gP ?_ | exact gPc | refine gN ?_ | exact gNc | (refine gI ?_ ?_ <;> intro hyp <;> first | refine goF ?_ | exact goFc | refine goT ?_ | exact goTc | skip))
    obtain ⟨R0, hR0⟩ : ∃ R, R = Obj.row true (typed 94) true [AVal.int IntKind.i64 0, AVal.int IntKind.i64 0, AVal.int IntKind.i64 0, AVal.str [], AVal.bool false] := ⟨_, rfl⟩
    obtain ⟨H, hH⟩ : ∃ H, H = (Heap.empty.push R0).push (Obj.row true (typed 96) true (s.map byteV)) := ⟨_, rfl⟩
    have hn : H.next = 2 := by rw [hH]; rfl
    have g0 : H.get 0 = some R0 := by rw [hH]; rfl
    have g1 : H.get 1 = some (Obj.row true (typed 96) true (s.map byteV)) := by rw [hH]; rfl
    rw [← hR0, ← hH]
    refine lend1 g1 (.inl (by decide)) (by omega) (hash_cv _ (by rw [List.length_take, List.length_drop]; omega)) (scal_bytes _) ?_
    rw [List.drop_zero]
    have sl := sum_len (s.take 56)
    have sso := bytes_all (sum (s.take 56))
    obtain ⟨S, hS⟩ : ∃ S, S = sum (s.take 56) := ⟨_, rfl⟩
    have hck := checked_iff s h64
    rw [← hS] at sl sso hck ⊢
    have sst2 := set_bytes y S (by rw [yl, sl])
    replace fx := aI @hn (aI @yl (aI @yo (aI @sl (aI @sso (aI @sst2 (aI @g1 (aI @h64 (aI @aR @bR))))))))
    (first | refine go ?_ | exact goC | skip); repeat' (first | refine gP ?_ | exact gPc | refine gN ?_ | exact gNc | (refine gI ?_ ?_ <;> intro hyp <;> first | refine goF ?_ | exact goFc | refine goT ?_ | exact goTc | skip))
    obtain ⟨H2, hH2⟩ : ∃ H2, H2 = H.push (Obj.row true (typed 125) true (S.map byteV)) := ⟨_, rfl⟩
    have k0 := push_eqs hH2 g0
    have k1 := push_eqs hH2 g1
    have k2 : H2.get 2 = some (Obj.row true (typed 125) true (S.map byteV)) := by rw [hH2]; exact get_push_eq hn.symm
    have n2 : H2.next = 3 := by rw [hH2, push_next, hn]
    rw [← hH2]
    clear hH hH2 g0 g1
    obtain ⟨N, hN⟩ : ∃ N, N = num (s.take 4) := ⟨_, rfl⟩
    obtain ⟨P, hP⟩ : ∃ P, P = num ((s.drop 4).take 2) := ⟨_, rfl⟩
    obtain ⟨L, hL⟩ : ∃ L, L = num ((s.drop 6).take 2) := ⟨_, rfl⟩
    have hPl : P < 65536 := by have := num_lt ((s.drop 4).take 2); rw [List.length_take, List.length_drop, h64] at this; exact hP ▸ this
    have hLl : L < 65536 := by have := num_lt ((s.drop 6).take 2); rw [List.length_take, List.length_drop, h64] at this; exact hL ▸ this
    have hNl : N < 4294967296 := by have := num_lt (s.take 4); rw [List.length_take, h64] at this; exact hN ▸ this
    have c1 := get_c ((s.drop 0).take 4) (by rw [List.length_take]; omega)
    have c2 := get_c ((s.drop 4).take 2) (by rw [List.length_take]; omega)
    have c3 := get_c ((s.drop 6).take 2) (by rw [List.length_take]; omega)
    refine lend1 k1 (.inl (by decide)) (by omega) c1 rfl ?_
    refine lend1 k1 (.inl (by decide)) (by omega) c2 rfl ?_
    refine lend1 k1 (.inl (by decide)) (by omega) c3 rfl ?_
    rw [List.drop_zero, ← hN, ← hP, ← hL]
    clear c1 c2 c3
    have hf : fld s = ⟨N, P, L, (s.drop 8).take (min L 48)⟩ := by rw [fld, hN, hP, hL]
    have hg := good_iff s
    rw [hf] at hg
    simp only [] at hg
    rw [hck] at hg
    obtain ⟨M, hM⟩ : ∃ M, M = min L 48 := ⟨_, rfl⟩
    have hMl : M ≤ 48 := by omega
    have hMi : min (L : Int) 48 = (M : Int) := by omega
    have hT : (48 - (M : Int)).toNat = 48 - M := by omega
    rw [← hM] at hg hf
    replace fx := aI @n2 (aI @k0 (aI @k1 (aI @k2 (aI @sl (aI @h64 (aI @aR (aI @bR (aI @XW_mnxK (aI @mnx_min (aI @hMi @hT))))))))))
    (first | refine go ?_ | exact goC | skip); repeat' (first | refine gP ?_ | exact gPc | refine gN ?_ | exact gNc | (refine gI ?_ ?_ <;> intro hyp <;> first | refine goF ?_ | exact goFc | refine goT ?_ | exact goTc | skip))
    rw [repl_b]
    obtain ⟨R3, hR3⟩ : ∃ R, R = Obj.row true (typed 94) true [AVal.int IntKind.i64 (N : Int), AVal.int .i64 (P : Int), .int .i64 (L : Int), .str [], .bool true] := ⟨_, rfl⟩
    obtain ⟨R4, hR4⟩ : ∃ R, R = Obj.row true 1 false ((List.replicate (48 - M) (0 : UInt8)).map byteV) := ⟨_, rfl⟩
    obtain ⟨H4, hH4⟩ : ∃ H4, H4 = (H2.push R3).push R4 := ⟨_, rfl⟩
    have m0 := push_eqs hH4 (push_eqs rfl k0)
    have m1 := push_eqs hH4 (push_eqs rfl k1)
    have m2 := push_eqs hH4 (push_eqs rfl k2)
    have m3 : H4.get 3 = some R3 := push_eqs hH4 (get_push_eq n2.symm)
    have m4 : H4.get 4 = some R4 := by rw [hH4]; exact get_push_eq (by rw [push_next, n2])
    rw [← hR3, ← hR4, ← hH4]
    have n4 : H4.next = 5 := by rw [hH4, push_next, push_next, n2]
    clear hH4 k0 k1 k2
    refine lend2 m2 (.inl (by decide)) (by omega) m1 (.inl (by decide)) (by omega) (equal_cv _ _) rfl ?_
    have e8 : (s.drop 56).take 8 = s.drop 56 := List.take_of_length_le (by rw [List.length_drop]; omega)
    rw [List.drop_zero, e8]
    rw [hR3] at m3
    rw [hR0] at m0
    rw [hR4] at m4
    by_cases hp : S.take 8 = s.drop 56 ∧ 1 ≤ N ∧ N ≤ 4096 ∧ 48 * P + L ≤ 8000 ∧ ¬ (L < 1 ∧ 0 < P)
    · obtain ⟨p1, p2, p3, p4, p5⟩ := hp
      have T8 : (8 + (M : Int)).toNat = 8 + M := by omega
      have T9 : 56 - (8 + M) = 48 - M := by omega
      have ez : (List.replicate (48 - M) (0 : UInt8)).drop 0 = List.replicate (48 - M) 0 := rfl
      have et : (List.replicate (48 - M) (0 : UInt8)).take (48 - M) = List.replicate (48 - M) 0 := List.take_of_length_le (by simp)
      replace fx := aI @p1 (aI @m3 (aI @m1 (aI @h64 (aI @aR (aI @bR (aI @T8 @T9))))))
      (first | refine go ?_ | exact goC | skip); repeat' (first | refine gP ?_ | exact gPc | refine gN ?_ | exact gNc | (refine gI ?_ ?_ <;> intro hyp <;> first | refine goF ?_ | exact goFc | refine goT ?_ | exact goTc | skip))
      all_goals
        refine lend2 m1 (.inl (by decide)) (by omega) m4 (.inr rfl) (by simp) (equal_cv _ _) rfl ?_
        rw [ez, et]
        by_cases hz0 : (s.drop (8 + M)).take (48 - M) = List.replicate (48 - M) 0
        · have hgood : good s = true := hg.2 ⟨h64, p1, p2, p3, p4, p5, hz0⟩
          have T10 : 8 + M - 8 = M := by omega
          have gq : ∀ (a b : Option Abs.Obj), ((H4.put 3 a).put 0 b).get 0 = b := fun a b => get_put_old ((get_put_ne (by omega)).trans m0)
          rw [unpack_some hgood, hf]
          have gp : ∀ (a : Abs.Obj), (H4.put 3 (some a)).get 3 = some a := fun a => get_put_old m3
          replace fx := aI @hz0 (aI @m0 (aI @m3 (aI @gp (aI @gq (aI @h64 (aI @T8 @T10))))))
          (first | refine go ?_ | exact goC | skip); repeat' (first | refine gP ?_ | exact gPc | refine gN ?_ | exact gNc | (refine gI ?_ ?_ <;> intro hyp <;> first | refine goF ?_ | exact goFc | refine goT ?_ | exact goTc | skip))
          rfl
        · rw [unpack_none fun q => hz0 (hg.1 q).2.2.2.2.2.2]
          replace fx := aI @hz0 @m0
          (first | refine go ?_ | exact goC | skip); repeat' (first | refine gP ?_ | exact gPc | refine gN ?_ | exact gNc | (refine gI ?_ ?_ <;> intro hyp <;> first | refine goF ?_ | exact goFc | refine goT ?_ | exact goTc | skip))
          rfl
    · rw [unpack_none fun q => hp ⟨(hg.1 q).2.1, (hg.1 q).2.2.1, (hg.1 q).2.2.2.1, (hg.1 q).2.2.2.2.1, (hg.1 q).2.2.2.2.2.1⟩]
      replace fx := aI @m0 (aI @m3 (aI @m1 (aI @h64 (aI @aR @bR))))
      (first | refine go ?_ | exact goC | skip); repeat' (first | refine gP ?_ | exact gPc | refine gN ?_ | exact gNc | (refine gI ?_ ?_ <;> intro hyp <;> first | refine goF ?_ | exact goFc | refine goT ?_ | exact goTc | skip))
      all_goals first | rfl | (refine absurd ⟨?_, ?_, ?_, ?_, ?_⟩ hp <;> first | assumption | omega)
  · have e : unpack s = none := unpack_none (by rw [good_iff]; exact fun q => h64 q.1)
    replace fx := Dum_eq
    (first | refine go ?_ | exact goC | skip); repeat' (first | refine gP ?_ | exact gPc | refine gN ?_ | exact gNc | (refine gI ?_ ?_ <;> intro hyp <;> first | refine goF ?_ | exact goFc | refine goT ?_ | exact goTc | skip))
    rw [e]; rfl
theorem Unpack_v (s : Bs) (hs : s.length ≤ 1000000) : PV F 41 [.str s] = some (.tup (partC (unpack s))) := by
  have h1 := unpack_v s hs
  refine PV_wp (fn := c41) rfl ?_
  dsimp only [oT, oN, oV, oG, oW, c41]
  cases hu : unpack s with
  | none =>
    rw [hu] at h1
    unfold partV partC at h1
    replace fx := @h1
    (first | refine go ?_ | exact goC | skip); repeat' (first | refine gP ?_ | exact gPc | refine gN ?_ | exact gNc | (refine gI ?_ ?_ <;> intro hyp <;> first | refine goF ?_ | exact goFc | refine goT ?_ | exact goTc | skip))
    rfl
  | some p =>
    rw [hu] at h1
    unfold partV partC at h1
    replace fx := @h1
    (first | refine go ?_ | exact goC | skip); repeat' (first | refine gP ?_ | exact gPc | refine gN ?_ | exact gNc | (refine gI ?_ ?_ <;> intro hyp <;> first | refine goF ?_ | exact goFc | refine goT ?_ | exact goTc | skip))
    rfl
end Go.Proofs.YtjofjgflcogklaaGreatDoor

namespace Go.Proofs.YtjofjgflcogklaaGreatDoor
open Go Go.Abs Go.Sha Go.Jn
theorem partV_none : partV none = .agg [.int .i64 0, .int .i64 0, .int .i64 0, .str [], .bool false] := rfl
theorem partV_some (p : Prt) : partV (some p) = .agg [.int .i64 (p.number : Int), .int .i64 (p.part : Int), .int .i64 (p.left : Int), .str p.pay, .bool true] := rfl
theorem partV_len (o : Option Prt) : (partV o).cells.length = 5 := by cases o <;> rfl
def recV (o : Option (Nat × Nat × Bs)) : AVal := match o with
  | none => .tup [.str [], .int .i64 0, .bool false]
  | some (_, c, t) => .tup [.str t, .int .i64 (c : Int), .bool true]
def POk (o : Option Prt) : Prop := ∀ p, o = some p → p.left ≤ 8000 ∧ 1 ≤ p.number ∧ p.number ≤ 4096 ∧ 48 * p.part + p.left ≤ 8000 ∧ p.pay.length ≤ 48
theorem unpack_ok (s : Bs) : POk (unpack s) := fun p h => unpack_left h
theorem textOf_succ (ps : List (Option Prt)) {k : Nat} (hk : k < ps.length) : textOf ps (k + 1) = textOf ps k ++ payO (nth ps k) := by
  simp only [textOf, List.take_succ_eq_append_getElem hk, List.flatMap_append, nth_eq hk]
  simp
theorem textOf_len (ps : List (Option Prt)) (hp : ∀ o ∈ ps, POk o) (k : Nat) : (textOf ps k).length ≤ 48 * k := by
  induction k with
  | zero => simp [textOf]
  | succ k ih =>
    by_cases hk : k < ps.length
    · rw [textOf_succ ps hk, List.length_append]
      have : (payO (nth ps k)).length ≤ 48 := by
        have hm := hp _ (nth_mem hk)
        cases hq : nth ps k with
        | none => simp [payO]
        | some q => exact (hm q hq).2.2.2.2
      omega
    · have : textOf ps (k + 1) = textOf ps k := by
        rw [textOf, textOf, List.take_of_length_le (by omega), List.take_of_length_le (by omega)]
      rw [this]; omega
theorem record_v (ps : List (Option Prt)) (hne : ps ≠ []) (hl : ps.length ≤ 1000000) (hp : ∀ o ∈ ps, POk o) : PV F 50 [.sl (ps.map partV) .none] = some (recV (record ps)) := by
  obtain ⟨o, ps', rfl⟩ : ∃ o ps', ps = o :: ps' := by cases ps with | nil => exact absurd rfl hne | cons a b => exact ⟨a, b, rfl⟩
  obtain ⟨ps, hps⟩ : ∃ ps, ps = o :: ps' := ⟨_, rfl⟩
  have h0 : nth ps 0 = o := by rw [hps]; rfl
  have hlen : 1 ≤ ps.length := by rw [hps]; simp
  rw [← hps] at hl hp ⊢
  have plen := partV_len
  refine PV_wp (fn := c50) rfl ?_
  dsimp only [oT, oN, oV, oG, oW, c50]
  cases o with
  | none =>
    have hc := count_v 0
    have hr : record ps = none := by rw [hps]; rfl
    rw [hr]
    replace fx := aI @h0 (aI @partV_none @hc)
    (first | refine go ?_ | exact goC | skip); repeat' (first | refine gP ?_ | exact gPc | refine gN ?_ | exact gNc | (refine gI ?_ ?_ <;> intro hyp <;> first | refine goF ?_ | exact goFc | refine goT ?_ | exact goTc | skip))
    rfl
  | some p =>
    have hc := count_v p.left
    obtain ⟨l1, l2, l3, l4, l5⟩ := hp (some p) (by rw [hps]; simp) p rfl
    have hcl := count_le p.left
    have hc1 := count_pos p.left l1
    have hr : record ps = if decide (p.part = 0) && (decide (count p.left ≤ ps.length) && (List.range (count p.left)).all (chainOk ps p)) then some (p.number, count p.left, textOf ps (count p.left)) else none := by rw [hps]; rfl
    obtain ⟨C, hC⟩ : ∃ C, C = count p.left := ⟨_, rfl⟩
    rw [← hC] at hc hcl hc1 hr
    by_cases hq : p.part = 0 ∧ C ≤ ps.length
    · obtain ⟨q1, q2⟩ := hq
      have hsl := fun (h2 : (C : Int) ≤ ps.length) => slice_n_b partV ps .i64 (C : Int) (by omega) h2 partV_len
      have tkl : (ps.take C).length = C := by rw [List.length_take]; omega
      replace fx := aI @h0 (aI @partV_some (aI @hc (aI @hsl @tkl)))
      (first | refine go ?_ | exact goC | skip); repeat' (first | refine gP ?_ | exact gPc | refine gN ?_ | exact gNc | (refine gI ?_ ?_ <;> intro hyp <;> first | refine goF ?_ | exact goFc | refine goT ?_ | exact goTc | skip))
      refine w_loop (fun m vs h => ∃ (k : Nat) (x1 x2 x3 x4 x5 : AVal), m = C - k ∧ k ≤ C ∧ (∀ i, i < k → chainOk ps p i = true) ∧ vs = [.sl (ps.map partV) .none, .str [], .int .i64 0, .bool false, .ptr 0 0, .int .i64 (C : Int), .str (textOf ps k), x1, x2, x3, .sl ((ps.take C).map partV) .none, .int .i64 (C : Int), .int .i64 (k : Int), x4, x5] ∧ ∃ S a, h.get 0 = some (.row true S a [.int .i64 (p.number : Int), .int .i64 (p.part : Int), .int .i64 (p.left : Int), .str p.pay, .bool true])) C
        ⟨0, _, _, _, _, _, rfl, by omega, fun i hi => by omega, rfl, ⟨_, _, rfl⟩⟩ ?_
      · rintro m vs h ⟨k, x1, x2, x3, x4, x5, rfl, hk, hch, rfl, S, a, g0⟩
        by_cases hkC : k < C
        · have ntk : nth (ps.take C) k = nth ps k := nth_take hkC
          have hm := hp _ (nth_mem (show k < ps.length by omega))
          have hts := textOf_succ ps (show k < ps.length by omega)
          have htl := textOf_len ps hp k
          cases hq : nth ps k with
          | none =>
            have hcc : record ps = none := by
              rw [hr, if_neg]
              simp only [Bool.and_eq_true, decide_eq_true_eq, List.all_eq_true, List.mem_range]
              intro q
              have := q.2.2 k hkC
              rw [chainOk, List.getElem?_eq_getElem (by omega), ← nth_eq (by omega), hq] at this
              simp at this
            rw [hcc]
            replace fx := aI @tkl (aI @ntk (aI @hq (aI @partV_none @g0)))
            (first | refine go ?_ | exact goC | skip); repeat' (first | refine gP ?_ | exact gPc | refine gN ?_ | exact gNc | (refine gI ?_ ?_ <;> intro hyp <;> first | refine goF ?_ | exact goFc | refine goT ?_ | exact goTc | skip))
            rfl
          | some q =>
            obtain ⟨m1, m2, m3, m4, m5⟩ := hm q hq
            rw [hq] at hts
            have l0 := get_lt g0
            have bad : ¬ (q.number = p.number ∧ q.part = k ∧ q.left + 48 * k = p.left) → record ps = none := by
              intro hn
              rw [hr, if_neg]
              simp only [Bool.and_eq_true, decide_eq_true_eq, List.all_eq_true, List.mem_range]
              intro q'
              have := q'.2.2 k hkC
              rw [chainOk, List.getElem?_eq_getElem (by omega), ← nth_eq (by omega), hq] at this
              simp only [decide_eq_true_eq] at this
              exact hn this
            have gd : q.number = p.number ∧ q.part = k ∧ q.left + 48 * k = p.left → chainOk ps p k = true := by
              intro hn
              rw [chainOk, List.getElem?_eq_getElem (by omega), ← nth_eq (by omega), hq]
              simp only [decide_eq_true_eq]
              exact hn
            have hap : (textOf ps k ++ q.pay) = textOf ps (k + 1) := hts.symm
            replace fx := aI @tkl (aI @ntk (aI @hq (aI @partV_some @g0)))
            (first | refine go ?_ | exact goC | skip); repeat' (first | refine gP ?_ | exact gPc | refine gN ?_ | exact gNc | (refine gI ?_ ?_ <;> intro hyp <;> first | refine goF ?_ | exact goFc | refine goT ?_ | exact goTc | skip))
            all_goals first
              | (rw [bad (by omega)]; rfl)
              | skip
            rw [hap]
            refine lp_n ⟨_, by omega, k + 1, _, _, _, _, _, rfl, by omega, fun i hi => ?_, by push_cast; rfl, ⟨_, _, get_push_old g0⟩⟩
            by_cases e : i = k
            · rw [e]; exact gd (by omega)
            · exact hch i (by omega)
        · have e : k = C := by omega
          subst e
          have hcc : record ps = some (p.number, k, textOf ps k) := by
            rw [hr, if_pos]
            simp only [Bool.and_eq_true, decide_eq_true_eq, List.all_eq_true, List.mem_range]
            exact ⟨q1, q2, hch⟩
          rw [hcc]
          replace fx := Dum_eq
          (first | refine go ?_ | exact goC | skip); repeat' (first | refine gP ?_ | exact gPc | refine gN ?_ | exact gNc | (refine gI ?_ ?_ <;> intro hyp <;> first | refine goF ?_ | exact goFc | refine goT ?_ | exact goTc | skip))
          rfl
    · have : record ps = none := by
        rw [hr, if_neg]
        simp only [Bool.and_eq_true, decide_eq_true_eq]
        exact fun q => hq ⟨q.1, q.2.1⟩
      rw [this]
      replace fx := aI @h0 (aI @partV_some @hc)
      (first | refine go ?_ | exact goC | skip); repeat' (first | refine gP ?_ | exact gPc | refine gN ?_ | exact gNc | (refine gI ?_ ?_ <;> intro hyp <;> first | refine goF ?_ | exact goFc | refine goT ?_ | exact goTc | skip))
      all_goals rfl
def IdxV (l : List Int) (n : Int) (v : AVal) : Prop := ∃ r : Int, v = .int .i64 r ∧ -1 ≤ r ∧ r ≤ 1000000 ∧ (0 ≤ r ↔ n ∈ l)
theorem index_v (l : List Int) (n : Int) (hl : l.length ≤ 1000000) (t : Tok) (ht : Pt t) : ∃ r : Int, -1 ≤ r ∧ r ≤ 1000000 ∧ (0 ≤ r ↔ n ∈ l) ∧ PV F 78 [.sl (l.map (.int .i64)) t, .int .i64 n] = some (.int .i64 r) := by
  have key : CV F 78 [.sl (l.map (.int .i64)) t, .int .i64 n] Heap.empty (fun v _ => IdxV l n v) := by
    refine CV_wp (fn := c78) rfl ?_
    dsimp only [oT, oN, oV, oG, oW, c78]
    replace fx := Dum_eq
    (first | refine go ?_ | exact goC | skip); repeat' (first | refine gP ?_ | exact gPc | refine gN ?_ | exact gNc | (refine gI ?_ ?_ <;> intro hyp <;> first | refine goF ?_ | exact goFc | refine goT ?_ | exact goTc | skip))
    refine w_loop (fun m vs h => ∃ (k : Nat) (x1 x2 x3 x4 : AVal), m = l.length - k ∧ k ≤ l.length ∧ (∀ i, i < k → nth l i ≠ n) ∧ vs = [.sl (l.map (.int .i64)) t, .int .i64 n, x1, x2, .int .i64 (l.length : Int), .int .i64 (k : Int), x3, x4]) l.length
      ⟨0, _, _, _, _, rfl, by omega, fun i hi => by omega, rfl⟩ ?_
    rintro m vs h ⟨k, x1, x2, x3, x4, rfl, hk, hz, rfl⟩
    by_cases hks : k < l.length
    · have hm := nth_mem hks
      by_cases h0 : nth l k = n
      · replace fx := @h0
        (first | refine go ?_ | exact goC | skip); repeat' (first | refine gP ?_ | exact gPc | refine gN ?_ | exact gNc | (refine gI ?_ ?_ <;> intro hyp <;> first | refine goF ?_ | exact goFc | refine goT ?_ | exact goTc | skip))
        exact ⟨_, rfl, by omega, by omega, by rw [← h0]; simpa using hm⟩
      · have h0' : ¬ n = nth l k := fun q => h0 q.symm
        replace fx := @h0'
        (first | refine go ?_ | exact goC | skip); repeat' (first | refine gP ?_ | exact gPc | refine gN ?_ | exact gNc | (refine gI ?_ ?_ <;> intro hyp <;> first | refine goF ?_ | exact goFc | refine goT ?_ | exact goTc | skip))
        refine lp_n ⟨_, by omega, k + 1, _, _, _, _, rfl, by omega, fun i hi => ?_, by push_cast; rfl⟩
        by_cases e : i = k
        · rw [e]; exact h0
        · exact hz i (by omega)
    · replace fx := Dum_eq
      (first | refine go ?_ | exact goC | skip); repeat' (first | refine gP ?_ | exact gPc | refine gN ?_ | exact gNc | (refine gI ?_ ?_ <;> intro hyp <;> first | refine goF ?_ | exact goFc | refine goT ?_ | exact goTc | skip))
      refine ⟨_, rfl, by omega, by omega, ?_⟩
      have : ¬ n ∈ l := fun hx => by
        obtain ⟨i, hi, q⟩ := List.getElem_of_mem hx
        exact hz i (by omega) (by rw [nth_eq hi, q])
      simp [this]
  obtain ⟨r, h', g, r', rfl, q1, q2, q3⟩ := key
  exact ⟨r', q1, q2, q3, PV_of g rfl⟩
theorem contains_v (l : List Int) (n : Int) (hl : l.length ≤ 1000000) (t : Tok) (ht : Pt t) : PV F 51 [.sl (l.map (.int .i64)) t, .int .i64 n] = some (.bool (decide (n ∈ l))) := by
  obtain ⟨r, q1, q2, q3, hp⟩ := index_v l n hl t ht
  refine PV_wp (fn := c51) rfl ?_
  dsimp only [oT, oN, oV, oG, oW, c51]
  replace fx := aI @hp @q3
  (first | refine go ?_ | exact goC | skip); repeat' (first | refine gP ?_ | exact gPc | refine gN ?_ | exact gNc | (refine gI ?_ ?_ <;> intro hyp <;> first | refine goF ?_ | exact goFc | refine goT ?_ | exact goTc | skip))
end Go.Proofs.YtjofjgflcogklaaGreatDoor

namespace Go.Abs
def GrN {α : Type} (h : Heap) (ty sz : Nat) (l : List α) (tk : Tok) : Prop := (l = [] ∧ tk = .nil) ∨ ∃ id, tk = .own id sz ∧ h.get id = some (.tok ty)
theorem GrN.nil {α : Type} (h : Heap) (ty sz : Nat) : GrN h ty sz ([] : List α) .nil := .inl ⟨rfl, rfl⟩
theorem GrN.lt {α : Type} {h : Heap} {ty sz : Nat} {l : List α} {tk : Tok} (g : GrN h ty sz l tk) {i s : Nat} (e : tk = .own i s) : i < h.next := by
  rcases g with ⟨_, rfl⟩ | ⟨id, rfl, g⟩
  · simp at e
  · simp only [Tok.own.injEq] at e; rw [← e.1]; exact get_lt g
theorem GrN.keep {α : Type} {h h' : Heap} {ty sz : Nat} {l : List α} {tk : Tok} (g : GrN h ty sz l tk) (k : ∀ i, h.get i = some (.tok ty) → (∃ s, tk = .own i s) → h'.get i = some (.tok ty)) : GrN h' ty sz l tk := by
  rcases g with g | ⟨id, rfl, g⟩
  · exact .inl g
  · exact .inr ⟨id, rfl, k id g ⟨_, rfl⟩⟩
theorem GrN.fr {α : Type} {S : Nat → Prop} {h h' : Heap} {ty sz : Nat} {l : List α} {tk : Tok} (g : GrN h ty sz l tk) (f : Fr S h h') (hS : ∀ i s, tk = .own i s → ¬ S i) : GrN h' ty sz l tk :=
  g.keep fun i hg ⟨s, e⟩ => f.get hg (hS i s e)
theorem append_N {α : Type} [Inhabited α] {f : α → AVal} {sz : Nat} {h : Heap} {ty bytes : Nat} {ag : Bool} {l : List α} {tk : Tok} {y : AVal} {ys : List α} (hf : ∀ x, (f x).cells.length = sz) (hm : ∀ x, mk ag (f x).cells = some (f x)) (hs : ∀ x, stripL (f x).cells = some (f x).cells)
    (hy : lenA y = some ys.length) (hn : elemsA h sz y = some (flat (ys.map f))) (hg : GrN h ty sz l tk) (hlen : l.length + ys.length ≤ 1000000) (hb : bytes ≤ 10000) (h0 : 0 < sz) (h1 : sz < 1000000) (hne : ys ≠ []) :
    ∃ h', appendA false ty bytes sz ag (.sl (l.map f) tk) y h = some (.sl ((l ++ ys).map f) (.own h.next sz), h') ∧ h'.next = h.next + 1 ∧ h'.get h.next = some (.tok ty) ∧ (∀ j, j < h.next → (∀ i s, tk = .own i s → j ≠ i) → h'.get j = h.get j) :=
  append_own hf hm hs hy hn (by rcases hg with ⟨_, e⟩ | g; exact .inl e; exact .inr g) (by rcases hg with ⟨e, _⟩ | ⟨i, e, _⟩; exact fun _ => e; rw [e]; simp) hlen hb h0 h1 hne
theorem GrN.ne {α : Type} {h : Heap} {ty sz : Nat} {l : List α} {tk : Tok} (g : GrN h ty sz l tk) {j : Nat} {o : Obj} (hj : h.get j = some o) (ho : o ≠ .tok ty) : ∀ i s, tk = .own i s → j ≠ i := by
  rintro i s e rfl
  rcases g with ⟨_, rfl⟩ | ⟨id, rfl, g⟩
  · simp at e
  · simp only [Tok.own.injEq] at e; rw [e.1, hj] at g; exact ho (Option.some.inj g)
theorem GrN.strip {α : Type} {h : Heap} {ty sz : Nat} {l : List α} {tk : Tok} (g : GrN h ty sz l tk) (f : α → AVal) : ∃ u, Pt u ∧ Go.Abs.strip (.sl (l.map f) tk) = some (.sl (l.map f) u) := by
  rcases g with ⟨_, rfl⟩ | ⟨id, rfl, _⟩
  · exact ⟨.nil, .inr rfl, rfl⟩
  · exact ⟨.none, .inl rfl, rfl⟩
theorem slice_o_a {α : Type} [Inhabited α] (f : α → AVal) (l : List α) {sz i s : Nat} (k : IntKind) (a : Int) (h0 : 0 ≤ a) (h2 : a ≤ l.length) (hf : ∀ x, (f x).cells.length = sz) : sliceA sz (.sl (l.map f) (.own i s)) (some (.int k a)) none = some (.sl ((l.drop a.toNat).map f) .none) := by
  have ha : boundA (some (.int k a)) 0 l.length = some a.toNat := boundA_int k a _ _ h0 h2
  simp only [sliceA, List.length_map, ha, boundA_none]
  rw [if_pos]
  · rw [← List.map_drop, ← List.map_take, List.take_of_length_le (by simp)]; rfl
  · refine ⟨fun x hx => ?_, by simp⟩
    cases l with
    | nil => simp at hx
    | cons y l => simp at hx; subst hx; exact hf y
end Go.Abs
namespace Go.Proofs.YtjofjgflcogklaaGreatDoor
open Go Go.Abs Go.Sha Go.Jn
def conts (D : Dsk) : List Bs := D.s.map fun x => (x.next.getD x.text).1
theorem conts_len (D : Dsk) : (conts D).length = D.s.length := by simp [conts]
theorem nth_conts (D : Dsk) {k : Nat} (hk : k < D.s.length) : nth (conts D) k = ((nth D.s k).next.getD (nth D.s k).text).1 := by
  rw [nth_eq (by rw [conts_len]; exact hk), nth_eq hk]; simp [conts]
theorem conts_64 (D : Dsk) {k : Nat} (hk : k < D.s.length) : (nth (conts D) k).length = 64 := by
  rw [nth_conts D hk]; exact ((nth D.s k).next.getD (nth D.s k).text).2
theorem read_conts (D : Dsk) (ho : D.off = false) {k : Nat} (hk : k < D.s.length) : D.read (k : Int) = (nth (conts D) k, 0) := by
  rw [Dsk.read, ho, if_neg (by simp), if_neg (by omega), nth_conts D hk]; simp
structure JT (h : Heap) (t1 t2 t3 : Tok) (J : Jst) : Prop where
  g1 : GrN h 3 1 J.nums t1
  g2 : GrN h 3 1 J.bad t2
  g3 : GrN h 9 1 J.texts t3
  ne : ∀ i s s', t1 = .own i s → t2 ≠ .own i s'
def TS (t1 t2 t3 : Tok) (i : Nat) : Prop := (∃ s, t1 = .own i s) ∨ (∃ s, t2 = .own i s) ∨ ∃ s, t3 = .own i s
theorem JT.fr {S : Nat → Prop} {h h' : Heap} {t1 t2 t3 : Tok} {J : Jst} (g : JT h t1 t2 t3 J) (f : Fr S h h') (hS : ∀ i, TS t1 t2 t3 i → ¬ S i) : JT h' t1 t2 t3 J :=
  ⟨g.g1.fr f fun i s e => hS i (.inl ⟨s, e⟩), g.g2.fr f fun i s e => hS i (.inr (.inl ⟨s, e⟩)), g.g3.fr f fun i s e => hS i (.inr (.inr ⟨s, e⟩)), g.ne⟩
theorem JT.lt {h : Heap} {t1 t2 t3 : Tok} {J : Jst} (g : JT h t1 t2 t3 J) {i : Nat} (q : TS t1 t2 t3 i) : i < h.next := by
  rcases q with ⟨s, e⟩ | ⟨s, e⟩ | ⟨s, e⟩
  · exact g.g1.lt e
  · exact g.g2.lt e
  · exact g.g3.lt e
structure PJ (h : Heap) (j d : Nat) (t1 t2 t3 : Tok) (J : Jst) : Prop where
  row : h.get j = some (.row true 0 true [.ptr d 0, .sl (J.nums.map intN) t1, .sl (J.bad.map intN) t2, .sl (J.texts.map strV) t3, .int .i64 (J.next : Int), .int .i64 (J.fin : Int), .bool J.closed])
  tk : JT h t1 t2 t3 J
structure RJ (h : Heap) (j r : Nat) (t1 t2 t3 : Tok) (J : Jst) : Prop where
  row : h.get j = some (.row true 0 true [.ptr r 0, .sl (J.nums.map intN) t1, .sl (J.texts.map strV) t3, .sl (J.bad.map intN) t2, .int .i64 (J.next : Int), .int .i64 (J.fin : Int), .bool J.closed])
  tk : JT h t1 t2 t3 J
def JS (j : Nat) (t1 t2 t3 : Tok) (i : Nat) : Prop := i = j ∨ TS t1 t2 t3 i
theorem PJ.fr {S : Nat → Prop} {h h' : Heap} {j d : Nat} {t1 t2 t3 : Tok} {J : Jst} (g : PJ h j d t1 t2 t3 J) (f : Fr S h h') (hS : ∀ i, JS j t1 t2 t3 i → ¬ S i) : PJ h' j d t1 t2 t3 J :=
  ⟨f.get g.row (hS _ (.inl rfl)), g.tk.fr f fun i q => hS i (.inr q)⟩
theorem RJ.fr {S : Nat → Prop} {h h' : Heap} {j d : Nat} {t1 t2 t3 : Tok} {J : Jst} (g : RJ h j d t1 t2 t3 J) (f : Fr S h h') (hS : ∀ i, JS j t1 t2 t3 i → ¬ S i) : RJ h' j d t1 t2 t3 J :=
  ⟨f.get g.row (hS _ (.inl rfl)), g.tk.fr f fun i q => hS i (.inr q)⟩
theorem PJ.lt {h : Heap} {j d : Nat} {t1 t2 t3 : Tok} {J : Jst} (g : PJ h j d t1 t2 t3 J) {i : Nat} (q : JS j t1 t2 t3 i) : i < h.next := by
  rcases q with rfl | q
  · exact get_lt g.row
  · exact g.tk.lt q
theorem RJ.lt {h : Heap} {j d : Nat} {t1 t2 t3 : Tok} {J : Jst} (g : RJ h j d t1 t2 t3 J) {i : Nat} (q : JS j t1 t2 t3 i) : i < h.next := by
  rcases q with rfl | q
  · exact get_lt g.row
  · exact g.tk.lt q
theorem heads_recs (l : List Bs) (k : Nat) : (heads l k).recs = [] := (heads_next l k).2.2.2.2
theorem heads_nums (l : List Bs) (k : Nat) : (heads l k).nums = [] := by rw [Jst.nums, heads_recs]; rfl
theorem heads_texts (l : List Bs) (k : Nat) : (heads l k).texts = [] := by rw [Jst.texts, heads_recs]; rfl
theorem heads_bad (l : List Bs) (k : Nat) : (heads l k).bad.length ≤ k ∧ ∀ i ∈ (heads l k).bad, i < k := by
  induction k with
  | zero => simp [heads]
  | succ k ih =>
    simp only [heads, scanSec]
    split
    · refine ⟨by simp; omega, fun i hi => ?_⟩
      rcases List.mem_append.1 hi with h | h
      · have := ih.2 i h; omega
      · simp at h; omega
    · exact ⟨by omega, fun i hi => by have := ih.2 i hi; omega⟩
theorem blank_iff (s : Bs) (h : s.length = 64) : s = List.replicate 64 0 ↔ Jn.blank s = true := by
  rw [Jn.blank, List.all_eq_true]
  constructor
  · intro e x hx
    rw [e] at hx
    simp [(List.mem_replicate.1 hx).2]
  · intro e
    refine List.ext_getElem (by rw [h]; simp) fun i h1 h2 => ?_
    rw [List.getElem_replicate]
    simpa using e _ (List.getElem_mem h1)
theorem intN_len (n : Nat) : (intN n).cells.length = 1 := rfl
theorem strV_len (s : Bs) : (strV s).cells.length = 1 := rfl
theorem partV_strip (o : Option Prt) : stripL (partV o).cells = some (partV o).cells := by cases o <;> rfl
theorem partV_mk (o : Option Prt) : mk true (partV o).cells = some (partV o) := by cases o <;> rfl
theorem contains_n (l : List Nat) (n : Nat) (hl : l.length ≤ 1000000) (t : Tok) (ht : Pt t) : PV F 51 [.sl (l.map intN) t, .int .i64 (n : Int)] = some (.bool (decide (n ∈ l))) := by
  have := contains_v (l.map fun i : Nat => (i : Int)) n (by simpa using hl) t ht
  rw [List.map_map] at this
  rw [show l.map intN = l.map (AVal.int .i64 ∘ fun i : Nat => (i : Int)) from rfl, this]
  congr 2
  have : (n : Int) ∈ l.map (fun i : Nat => (i : Int)) ↔ n ∈ l := by
    rw [List.mem_map]
    exact ⟨fun ⟨x, hx, e⟩ => by rwa [← Int.ofNat.inj e], fun hx => ⟨n, hx, rfl⟩⟩
  exact decide_eq_decide.2 this
theorem partV_facts (o : Option Prt) : (partV o).cells.length = 5 ∧ (partV o).cells.all AVal.one = true ∧ ((partV o).cells.drop 4).take 1 = [.bool o.isSome] ∧ (partV o).cells.take 1 = [.int .i64 (numO o : Int)] ∧ True ∧
    ∀ H, litA 0 94 1 5 true [.int .i64 0, .int .i64 0, .int .i64 0, .str [], .bool false] (some (partV o).cells) H = some (.sl (([o] : List (Option Prt)).map partV) .none, H) := by
  cases o with
  | none => exact ⟨rfl, rfl, rfl, rfl, trivial, fun H => lit_none rfl rfl rfl rfl⟩
  | some q => exact ⟨rfl, rfl, rfl, rfl, trivial, fun H => lit_none rfl rfl rfl rfl⟩
theorem record_facts {ps : List (Option Prt)} (hp : ∀ o ∈ ps, POk o) {q nm c : Nat} {tx : Bs} (h : record (ps.drop q) = some (nm, c, tx)) : 1 ≤ c ∧ q + c ≤ ps.length ∧ tx.length ≤ 8016 ∧ ∃ p, nth ps q = some p ∧ p.number = nm := by
  have hq : q < ps.length := by
    apply Classical.byContradiction
    intro hn
    rw [List.drop_eq_nil_of_le (by omega)] at h
    simp [record] at h
  rw [List.drop_eq_getElem_cons hq] at h
  cases ho : ps[q] with
  | none => rw [ho] at h; simp [record] at h
  | some p =>
    rw [ho] at h
    have hl := hp (some p) (by rw [← ho]; exact List.getElem_mem hq) p rfl
    have hc1 := count_pos p.left hl.1
    have hc2 := count_le p.left
    simp only [record] at h
    split at h
    · rename_i hcond
      simp only [Option.some.injEq, Prod.mk.injEq] at h
      obtain ⟨e1, e2, e3⟩ := h
      simp only [Bool.and_eq_true, decide_eq_true_eq, List.length_cons, List.length_drop] at hcond
      refine ⟨by omega, by omega, ?_, p, by rw [nth_eq hq, ho], e1⟩
      rw [← e3]
      have := textOf_len (some p :: ps.drop (q + 1)) (fun o ho' => by
        rcases List.mem_cons.1 ho' with rfl | ho'
        · exact hp _ (by rw [← ho]; exact List.getElem_mem hq)
        · exact hp _ (List.mem_of_mem_drop ho')) (count p.left)
      omega
    · simp at h
variable {h : Heap} {d b p w : Nat} {D : Dsk}
theorem open_c (P : PD h d b p w D) (ho : D.off = false) : CV F 12 [.ptr d 0] h (fun v h' => ∃ j t1 t2 t3, v = .tup [.ptr j 0, .int .i64 0] ∧ PJ h' j d t1 t2 t3 (openJ (conts D)) ∧ PD h' d b p w D ∧ Fr (fun _ => False) h h' ∧ ∀ i, JS j t1 t2 t3 i → h.next ≤ i) := by
  have hpos := P.ok.pos
  have hlen := P.ok.len
  refine CV_wp (fn := c12) rfl ?_
  dsimp only [oT, oN, oV, oG, oW, c12]
  rw [ck64, z64]
  have f1 : ∀ o, Fr (fun _ => False) h (h.push o) := fun o => (Fr.refl _ _).push o
  have P1 : ∀ o, PD (h.push o) d b p w D := fun o => P.fr (f1 o) (fun _ _ q => q)
  have L := fun o => cv_rw (len_c (P1 o))
  have cl := conts_len D
  obtain ⟨cs, hcs⟩ : ∃ cs, cs = conts D := ⟨_, rfl⟩
  obtain ⟨ps, hps⟩ : ∃ ps, ps = cs.map unpack := ⟨_, rfl⟩
  have pl : ps.length = D.s.length := by rw [hps, List.length_map, hcs, cl]
  replace fx := @L
  (first | refine go ?_ | exact goC | skip); repeat' (first | refine gP ?_ | exact gPc | refine gN ?_ | exact gNc | (refine gI ?_ ?_ <;> intro hyp <;> first | refine goF ?_ | exact goFc | refine goT ?_ | exact goTc | skip))
  obtain ⟨j, hj⟩ : ∃ j, j = h.next := ⟨_, rfl⟩
  rw [← hj]
  refine w_loop (fun m vs h' => ∃ (k : Nat) (tk t2 : Tok) (x1 x2 x3 x4 x5 x6 x7 x8 x9 x10 x11 x12 x13 x14 x15 : AVal), m = D.s.length - k ∧ k ≤ D.s.length ∧ vs = [.ptr d 0, x1, x2, .ptr j 0, .sl ((ps.take k).map partV) tk, x3, x4, x5, x6, x7, x8, x9, x10, x11, .int .i64 (D.s.length : Int), .int .i64 (k : Int), x12, x13, x14, x15, .tup [], .tup [], .tup []] ∧
      PJ h' j d .nil t2 .nil (heads cs k) ∧ GrN h' 94 5 (ps.take k) tk ∧ PD h' d b p w D ∧ Fr (fun _ => False) h h' ∧ (∀ i s, tk = .own i s → h.next ≤ i) ∧ (∀ i s, t2 = .own i s → h.next ≤ i)) D.s.length
    ⟨0, .nil, .nil, _, _, _, _, _, _, _, _, _, _, _, _, _, _, _, rfl, by omega, rfl, ⟨get_push_eq hj, ⟨GrN.nil _ _ _, GrN.nil _ _ _, GrN.nil _ _ _, by simp⟩⟩, GrN.nil _ _ _, P1 _, f1 _, by simp, by simp⟩ ?_
  rintro m vs h1 ⟨k, tk, t2, x1, x2, x3, x4, x5, x6, x7, x8, x9, x10, x11, x12, x13, x14, x15, rfl, hk, rfl, PJ1, G1, P2, f2, u1, u2⟩
  by_cases hkn : k < D.s.length
  · replace fx := Dum_eq
    (first | refine go ?_ | exact goC | skip); repeat' (first | refine gP ?_ | exact gPc | refine gN ?_ | exact gNc | (refine gI ?_ ?_ <;> intro hyp <;> first | refine goF ?_ | exact goFc | refine goT ?_ | exact goTc | skip))
    refine CV_mono (read_c P2 _) ?_
    rintro v h2 ⟨rfl, P3, f3⟩
    have hread := read_conts D ho hkn
    have s64 := conts_64 D hkn
    rw [← hcs] at hread s64
    have hpk : nth ps k = unpack (nth cs k) := by
      rw [nth_eq (by omega), nth_eq (by rw [hcs, cl]; exact hkn)]; simp [hps]
    have htk : ps.take (k + 1) = ps.take k ++ [nth ps k] := by
      rw [List.take_succ_eq_append_getElem (by omega), nth_eq (by omega)]
    have PJ2 := PJ1.fr f3 (fun _ _ q => q)
    have G2 := G1.fr f3 (fun _ _ _ q => q)
    have f23 := f2.trans f3
    have hup := unpack_v (nth cs k) (by omega)
    rw [hpk] at htk
    have hok := unpack_ok (nth cs k)
    obtain ⟨hn1, hn2, hn3, hn4, hn5⟩ := heads_next cs k
    have hJ : heads cs (k + 1) = scanSec (heads cs k) k (nth cs k) := rfl
    obtain ⟨J, hJJ⟩ : ∃ J, J = heads cs k := ⟨_, rfl⟩
    obtain ⟨J', hJJ'⟩ : ∃ J', J' = heads cs (k + 1) := ⟨_, rfl⟩
    have jn := heads_nums cs k
    have jt := heads_texts cs k
    have jn' := heads_nums cs (k + 1)
    have jt' := heads_texts cs (k + 1)
    have jb := (heads_bad cs k).1
    have hbi := blank_iff (nth cs k) s64
    have hr1 : (D.read (k : Int)).1 = nth cs k := by rw [hread]
    have hr2 : (D.read (k : Int)).2 = 0 := by rw [hread]
    obtain ⟨s, hs⟩ : ∃ s, s = nth cs k := ⟨_, rfl⟩
    rw [← hJJ] at hn1 hn2 hn3 hn4 hn5 hJ jn jt jb PJ2
    rw [← hJJ'] at hJ jn' jt'
    rw [← hs] at hr1 s64 htk hup hok hJ hbi
    have tk64 : s.take 64 = s := List.take_of_length_le (by omega)
    have ceq : cellsEq cks (s.map byteV) zerosV = some (decide (s = List.replicate 64 0)) := by
      have := cells_bytes s (List.replicate 64 0) (by rw [s64]; simp)
      rw [s64] at this
      exact this
    obtain ⟨prow, ptk⟩ := PJ2
    obtain ⟨o, ho⟩ : ∃ o, o = unpack s := ⟨_, rfl⟩
    rw [← ho] at hup htk hok
    obtain ⟨c1, c2, c3, c4, c5, c6⟩ := partV_facts o
    obtain ⟨C, hC⟩ : ∃ C, C = (partV o).cells := ⟨_, rfl⟩
    have lit5 : ∀ H, litA 0 94 1 5 true [.int .i64 0, .int .i64 0, .int .i64 0, .str [], .bool false] (some C) H = some (.sl (([o] : List (Option Prt)).map partV) .none, H) := by
      intro H; rw [hC]; exact c6 H
    rw [← hC] at c1 c2 c3 c4
    have hag : partV o = .agg C := by rw [hC]; cases o <;> rfl
    have hsc : setCells [.int .i64 0, .int .i64 0, .int .i64 0, .str [], .bool false] 0 C = C := setCells_all _ _ (by rw [c1]; rfl)
    have ctk : C.take 5 = C := List.take_of_length_le (by omega)
    replace fx := aI @hr1 (aI @hr2 (aI @hup (aI @hag (aI @c1 (aI @c2 (aI @hsc (aI @ctk @lit5)))))))
    (first | refine go ?_ | exact goC | skip); repeat' (first | refine gP ?_ | exact gPc | refine gN ?_ | exact gNc | (refine gI ?_ ?_ <;> intro hyp <;> first | refine goF ?_ | exact goFc | refine goT ?_ | exact goTc | skip))
    obtain ⟨R, hR⟩ : ∃ R, R = Obj.row true (typed 94) true C := ⟨_, rfl⟩
    obtain ⟨h3, hh3⟩ : ∃ h3, h3 = h2.push R := ⟨_, rfl⟩
    have f4 : Fr (fun _ => False) h2 h3 := by rw [hh3]; exact (Fr.refl _ _).push _
    have n3 : h3.next = h2.next + 1 := by rw [hh3]; rfl
    have a3 : h3.get h2.next = some R := by rw [hh3]; exact get_push_eq rfl
    rw [← hR, ← hag, ← hh3]
    have row3 := f4.get prow (fun q => q)
    have G3 := G2.fr f4 (fun _ _ _ q => q)
    have T3 := ptk.fr f4 (fun _ _ q => q)
    have P4 := P3.fr f4 (fun _ _ q => q)
    obtain ⟨h4, e4, n4, k4, o4⟩ := append_N (bytes := 48) (y := .sl ([o].map partV) .none) (ys := [o]) partV_len partV_mk partV_strip lenA_sl (elems_sl partV_len) G3 (by rw [List.length_take]; simp; omega) (by omega) (by omega) (by omega) (by simp)
    rw [← htk] at e4
    simp only [List.map_cons, List.map_nil] at e4
    have l3 := get_lt row3
    have row4 : h4.get j = _ := (o4 j (by omega) (G3.ne row3 (by simp))).trans row3
    have a4 : h4.get h2.next = some R := (o4 _ (by omega) (G3.ne a3 (by rw [hR]; simp))).trans a3
    rw [hR] at a4
    have G4 : GrN h4 94 5 (ps.take (k + 1)) (.own h3.next 5) := .inr ⟨_, rfl, k4⟩
    have g4 : GrN h4 3 1 J.bad t2 := T3.g2.keep fun i hg hs' => (o4 i (get_lt hg) (G3.ne hg (by simp))).trans hg
    have fr4 : Fr (fun i => ∃ s, tk = .own i s) h3 h4 := ⟨by omega, fun i hi hn => o4 i hi (fun i' s' e' => by rintro rfl; exact hn ⟨s', e'⟩)⟩
    have P5 : PD h4 d b p w D := P4.fr fr4 (fun i hi => by
      rintro ⟨s', e'⟩
      obtain ⟨_, ⟨_, _, q1⟩, q2, ⟨_, _, q3, _⟩, ⟨_, _, q4, _⟩, _⟩ := P4
      rcases hi with rfl | rfl | rfl | rfl
      · exact G3.ne q1 (by simp) _ _ e' rfl
      · exact G3.ne q2 (by simp) _ _ e' rfl
      · exact G3.ne q3 (by simp) _ _ e' rfl
      · exact G3.ne q4 (by simp) _ _ e' rfl)
    have F4 : Fr (fun _ => False) h h4 := ⟨by have := f23.1; have := f4.1; omega, fun i hi _ => by
      have hlt := f23.1
      rw [fr4.2 i (by have := f4.1; omega) (fun ⟨s', e'⟩ => by have := u1 i s' e'; omega), f4.2 i (by omega) (fun q => q)]; exact f23.2 i hi (fun q => q)⟩
    have stk : (s.map byteV).take 64 = s.map byteV := List.take_of_length_le (by rw [List.length_map]; omega)
    have hnO : numO o ≤ 4096 := by
      cases o with
      | none => simp [numO]
      | some q => exact (hok q rfl).2.2.1
    have mxn : max (J.next : Int) ((numO o : Int) + 1) = ((max J.next (numO o + 1) : Nat) : Int) := by omega
    have hb' : J'.bad = if o.isNone && !Jn.blank s then J.bad ++ [k] else J.bad := by rw [hJ, ho]; rfl
    have hf' : J'.fin = if Jn.blank s then J.fin else k + 1 := by rw [hJ]; rfl
    have hx' : J'.next = max J.next (numO o + 1) := by rw [hJ, ho]; rfl
    have hc' : J'.closed = false := by rw [hJ]; exact hn4
    rw [jn, jt, hn4] at row4
    have ho3 : o.isNone = !o.isSome := by cases o <;> rfl
    rw [ho3] at hb'
    have ljr := get_lt row4
    have ja : j ≠ h2.next := by have := get_lt prow; omega
    have lP := P.lt
    have fin : ∀ (hf : Heap) (t2' : Tok), h4.next ≤ hf.next → (∀ i, i < h4.next → i ≠ j → (∀ i' s', t2 = .own i' s' → i ≠ i') → hf.get i = h4.get i) →
        hf.get j = some (.row true 0 true [.ptr d 0, .sl [] .nil, .sl (J'.bad.map intN) t2', .sl [] .nil, .int .i64 (J'.next : Int), .int .i64 (J'.fin : Int), .bool false]) → GrN hf 3 1 J'.bad t2' → (∀ i s, t2' = .own i s → h.next ≤ i) →
        PJ hf j d .nil t2' .nil (heads cs (k + 1)) ∧ GrN hf 94 5 (ps.take (k + 1)) (.own h3.next 5) ∧ PD hf d b p w D ∧ Fr (fun _ => False) h hf ∧ (∀ i s, (Tok.own h3.next 5) = .own i s → h.next ≤ i) ∧ ∀ i s, t2' = .own i s → h.next ≤ i := by
      intro hf t2' q1 q2 q3 q4 q5
      rw [← hJJ']
      have F5 : Fr (fun i => i = j ∨ ∃ s, t2 = .own i s) h4 hf := ⟨q1, fun i hi hn => q2 i hi (fun e => hn (.inl e)) (fun i' s' e e' => hn (.inr ⟨s', by rw [e']; exact e⟩))⟩
      refine ⟨⟨?_, ?_, q4, ?_, by simp⟩, .inr ⟨_, rfl, ?_⟩, P5.fr F5 ?_, ⟨by have := F4.1; omega, fun i hi _ => ?_⟩, ?_, q5⟩
      · rw [jn', jt', hc']; exact q3
      · rw [jn']; exact GrN.nil _ _ _
      · rw [jt']; exact GrN.nil _ _ _
      · rw [q2 _ (get_lt k4) (by omega) (fun i' s' e => g4.ne k4 (by simp) i' s' e)]; exact k4
      · rintro i hi (rfl | ⟨s', e⟩)
        · have := lP _ hi; omega
        · have := lP _ hi; have := u2 _ _ e; omega
      · rw [q2 i (by have := F4.1; omega) (by omega) (fun i' s' e e' => by have := u2 _ _ e; omega)]; exact F4.2 i hi (fun q => q)
      · intro i s' e
        simp only [Tok.own.injEq] at e
        have := f23.1; omega
    have lj4 : ∀ (x : Option Abs.Obj) i, i ≠ j → (h4.put j x).get i = h4.get i := fun x i hi => get_put_ne hi
    have g5 : ∀ x, GrN (h4.put j x) 3 1 J.bad t2 := fun x => g4.keep fun i hg _ => by rw [get_put_ne (by rintro rfl; rw [row4] at hg; simp at hg)]; exact hg
    by_cases hbk : s = List.replicate 64 0
    · rw [hbi.1 hbk] at hb' hf'
      simp only [Bool.not_true, Bool.and_false, Bool.false_eq_true, if_false, if_true] at hb' hf'
      replace fx := aI @e4 (aI @s64 (aI @tk64 (aI @stk (aI @ceq (aI @zerosV_len (aI (eq_true hbk) (aI @row4 (aI @a4 (aI @c1 (aI @c3 (aI @c4 (aI @XW_mnxK (aI @mnx_max @mxn)))))))))))))
      (first | refine go ?_ | exact goC | skip); repeat' (first | refine gP ?_ | exact gPc | refine gN ?_ | exact gNc | (refine gI ?_ ?_ <;> intro hyp <;> first | refine goF ?_ | exact goFc | refine goT ?_ | exact goTc | skip))
      all_goals exact lp_n ⟨_, by omega, k + 1, _, t2, _, _, _, _, _, _, _, _, _, _, _, _, _, _, _, rfl, by omega, by push_cast; rfl, fin _ t2 (Nat.le_of_eq (put_next _ _ _).symm) (fun i _ hi _ => lj4 _ i hi) (by rw [hb', hf', hx']; exact get_put_old row4) (by rw [hb']; exact g5 _) u2⟩
    · rw [Bool.eq_false_iff.2 (fun q => hbk (hbi.2 q))] at hb' hf'
      simp only [Bool.not_false, Bool.and_true, Bool.false_eq_true, if_false] at hb' hf'
      cases hs' : o.isSome with
      | true =>
        rw [hs'] at hb' c3
        simp only [Bool.not_true, Bool.false_eq_true, if_false] at hb'
        have pp : ∀ x y, ((h4.put j (some x)).put j y).get j = y := fun x y => get_put_old (get_put_old row4)
        have g6 : ∀ x y, GrN ((h4.put j x).put j y) 3 1 J.bad t2 := fun x y => g4.keep fun i hg _ => by
          have hne : i ≠ j := by rintro rfl; rw [row4] at hg; simp at hg
          rw [get_put_ne hne, get_put_ne hne]; exact hg
        replace fx := aI @e4 (aI @s64 (aI @tk64 (aI @stk (aI @ceq (aI @zerosV_len (aI (eq_false hbk) (aI @row4 (aI @pp (aI @a4 (aI @c1 (aI @c3 (aI @c4 (aI @XW_mnxK (aI @mnx_max @mxn))))))))))))))
        (first | refine go ?_ | exact goC | skip); repeat' (first | refine gP ?_ | exact gPc | refine gN ?_ | exact gNc | (refine gI ?_ ?_ <;> intro hyp <;> first | refine goF ?_ | exact goFc | refine goT ?_ | exact goTc | skip))
        exact lp_n ⟨_, by omega, k + 1, _, t2, _, _, _, _, _, _, _, _, _, _, _, _, _, _, _, rfl, by omega, by push_cast; rfl, fin _ t2 (Nat.le_of_eq ((put_next _ _ _).trans (put_next _ _ _)).symm) (fun i _ hi _ => (get_put_ne hi).trans (get_put_ne hi)) (by rw [hb', hf', hx', Int.natCast_add]; exact pp _ _) (by rw [hb']; exact g6 _ _) u2⟩
      | false =>
        rw [hs'] at hb' c3
        simp only [Bool.not_false, if_true] at hb'
        have lb : ∀ H, litA 0 3 1 1 false [.int .i64 0] (some [.int .i64 (k : Int)]) H = some (.sl (([k] : List Nat).map intN) .none, H) := fun H => lit_none rfl rfl rfl rfl
        replace fx := aI @e4 (aI @s64 (aI @tk64 (aI @stk (aI @ceq (aI @zerosV_len (aI (eq_false hbk) (aI @row4 (aI @a4 (aI @c1 (aI @c3 (aI @c4 (aI @XW_mnxK (aI @mnx_max (aI @mxn @lb))))))))))))))
        (first | refine go ?_ | exact goC | skip); repeat' (first | refine gP ?_ | exact gPc | refine gN ?_ | exact gNc | (refine gI ?_ ?_ <;> intro hyp <;> first | refine goF ?_ | exact goFc | refine goT ?_ | exact goTc | skip))
        obtain ⟨R1, hR1⟩ : ∃ R1, R1 = Obj.row true 0 true [.ptr d 0, .sl [] .nil, .sl (J.bad.map intN) t2, .sl [] .nil, .int .i64 (J.next : Int), .int .i64 ((k : Int) + 1), .bool false] := ⟨_, rfl⟩
        obtain ⟨h6, e6, n6, k6, o6⟩ := append_N (bytes := 8) (ag := false) (f := intN) (y := .sl ([k].map intN) .none) (ys := [k]) intN_len (fun _ => rfl) (fun _ => rfl) lenA_sl (elems_sl intN_len) (g5 (some R1)) (by simp; omega) (by omega) (by omega) (by omega) (by simp)
        simp only [List.map_cons, List.map_nil] at e6
        rw [put_next] at n6 k6 o6 e6
        have gj : (h4.put j (some R1)).get j = some R1 := get_put_old row4
        have row6 : h6.get j = some R1 := (o6 j ljr ((g5 (some R1)).ne gj (by rw [hR1]; simp))).trans gj
        have a6 : h6.get h2.next = h4.get h2.next := (o6 _ (get_lt a4) ((g5 (some R1)).ne ((get_put_ne (Ne.symm ja)).trans a4) (by simp))).trans (get_put_ne (Ne.symm ja))
        rw [a4] at a6
        rw [← hR1]
        rw [hR1] at row6
        have pp : ∀ x y, ((h6.put j (some x)).put j y).get j = y := fun x y => get_put_old (get_put_old row6)
        replace fx := aI @e6 (aI @row6 (aI @pp (aI @a6 (aI @c1 (aI @c3 (aI @c4 (aI @XW_mnxK (aI @mnx_max @mxn))))))))
        (first | refine go ?_ | exact goC | skip); repeat' (first | refine gP ?_ | exact gPc | refine gN ?_ | exact gNc | (refine gI ?_ ?_ <;> intro hyp <;> first | refine goF ?_ | exact goFc | refine goT ?_ | exact goTc | skip))
        refine lp_n ⟨_, by omega, k + 1, _, .own h4.next 1, _, _, _, _, _, _, _, _, _, _, _, _, _, _, _, rfl, by omega, by push_cast; rfl, fin _ (.own h4.next 1) (by rw [put_next, put_next]; omega) (fun i h1' hi h2' => ((get_put_ne hi).trans (get_put_ne hi)).trans ((o6 i h1' h2').trans (get_put_ne hi))) (by rw [hb', hf', hx', Int.natCast_add]; exact pp _ _) ?_ ?_⟩
        · rw [hb']
          exact .inr ⟨_, rfl, by rw [get_put_ne (by omega), get_put_ne (by omega)]; exact k6⟩
        · intro i s' e
          simp only [Tok.own.injEq] at e
          have := F4.1; omega
  · have e : k = D.s.length := by omega
    subst e
    have ept : ps.take D.s.length = ps := List.take_of_length_le (by omega)
    rw [ept] at G1 ⊢
    obtain ⟨a, rfl, ga⟩ : ∃ a, tk = .own a 5 ∧ h1.get a = some (.tok 94) := by
      rcases G1 with ⟨e, _⟩ | G1
      · rw [e] at pl; simp at pl; omega
      · exact G1
    obtain ⟨J, hJ⟩ : ∃ J, J = heads cs D.s.length := ⟨_, rfl⟩
    have hop : openJ (conts D) = { J with recs := scanS ps 0 [] } := by rw [openJ, ← hcs, ← hps, hcs, cl, ← hcs, hJ]
    have jr := heads_recs cs D.s.length
    rw [← hJ] at PJ1 jr
    have hJ0 : J = { J with recs := [] } := by rw [← jr]
    obtain ⟨bl1, bl2⟩ := heads_next cs D.s.length
    rw [← hJ] at bl1 bl2
    replace fx := Dum_eq
    (first | refine go ?_ | exact goC | skip); repeat' (first | refine gP ?_ | exact gPc | refine gN ?_ | exact gNc | (refine gI ?_ ?_ <;> intro hyp <;> first | refine goF ?_ | exact goFc | refine goT ?_ | exact goTc | skip))
    refine w_loop (fun m vs h' => ∃ (q : Nat) (t1 t3 : Tok) (R : List (Nat × Bs)) (x1 x2 x3 x4 x5 x6 x7 x8 x9 x10 x11 x12 x13 x14 x15 x16 x17 x18 x19 : AVal), m = D.s.length - q ∧ q ≤ D.s.length ∧ vs = [.ptr d 0, x1, x2, .ptr j 0, .sl (ps.map partV) (.own a 5), x3, x4, x5, x6, x7, .int .i64 (q : Int), x8, x9, x10, x11, x12, x13, x14, x15, x16, x17, x18, x19] ∧
        scanS ps 0 [] = scanS (ps.drop q) 0 R ∧ R.length ≤ q ∧ PJ h' j d t1 t2 t3 { J with recs := R } ∧ PD h' d b p w D ∧ Fr (fun _ => False) h h' ∧ (∀ i, JS j t1 t2 t3 i → h.next ≤ i)) D.s.length
      ⟨0, .nil, .nil, [], _, _, _, _, _, _, _, _, _, _, _, _, _, _, _, _, _, _, _, rfl, by omega, rfl, rfl, by simp, by rw [← hJ0]; exact PJ1, P2, f2, ?_⟩ ?_
    · rintro i (rfl | ⟨s, e⟩ | ⟨s, e⟩ | ⟨s, e⟩)
      · omega
      · simp at e
      · exact u2 _ _ e
      · simp at e
    · clear PJ1 G1 P2 f2 ga
      rintro m vs h1 ⟨q, t1, t3, R, x1, x2, x3, x4, x5, x6, x7, x8, x9, x10, x11, x12, x13, x14, x15, x16, x17, x18, x19, rfl, hq, rfl, hsc, hRl, PJ1, P2, f2, u3⟩
      by_cases hqn : q < D.s.length
      · have hdn : ps.drop q ≠ [] := fun e => by have := congrArg List.length e; simp at this; omega
        have hpo : ∀ o ∈ ps, POk o := by
          intro o ho
          rw [hps] at ho
          obtain ⟨s, _, rfl⟩ := List.mem_map.1 ho
          exact unpack_ok s
        have hrec := record_v (ps.drop q) hdn (by rw [List.length_drop]; omega) (fun o ho => hpo o (List.mem_of_mem_drop ho))
        have hsl := slice_o_a partV ps (i := a) (s := 5) .i64 (q : Int) (by omega) (by omega) partV_len
        rw [Int.toNat_natCast] at hsl
        have h1l := scanS_drop ps
        cases hr : record (ps.drop q) with
        | none =>
          rw [hr] at hrec
          have hnx := scanS_none (R := R) hdn hr
          rw [List.drop_drop] at hnx
          unfold recV at hrec
          replace fx := aI @hsl @hrec
          (first | refine go ?_ | exact goC | skip); repeat' (first | refine gP ?_ | exact gPc | refine gN ?_ | exact gNc | (refine gI ?_ ?_ <;> intro hyp <;> first | refine goF ?_ | exact goFc | refine goT ?_ | exact goTc | skip))
          exact lp_n ⟨_, by omega, q + 1, t1, t3, R, _, _, _, _, _, _, _, _, _, _, _, _, _, _, _, _, _, _, _, rfl, by omega, by push_cast; rfl, by rw [hsc, hnx], by omega, PJ1, P2, f2, u3⟩
        | some x =>
          obtain ⟨nm, c, tx⟩ := x
          rw [hr] at hrec
          unfold recV at hrec
          obtain ⟨hc1, hcl, htx, hpn⟩ := record_facts hpo hr
          have hnx := scanS_some (R := R) hr hc1
          rw [List.drop_drop] at hnx
          have hnum : (partV (nth ps q)).cells.take 1 = [.int .i64 (nm : Int)] := by
            obtain ⟨p, hp, hpp⟩ := hpn
            rw [hp, ← hpp]; rfl
          have hpl := partV_len (nth ps q)
          obtain ⟨u, hu, hst⟩ := PJ1.tk.g1.strip intN
          have hct := contains_n (R.map (·.1)) nm (by simp; omega) u hu
          obtain ⟨prow, g1, g2, g3, gne⟩ := PJ1
          simp only [Jst.nums, Jst.texts] at prow g1 g2 g3 hst
          by_cases hmem : nm ∈ R.map (·.1)
          · rw [addRec, if_pos hmem] at hnx
            replace fx := aI @hsl (aI @hrec (aI @prow (aI @hnum (aI @hpl (aI @hst (aI @hct (eq_true hmem)))))))
            (first | refine go ?_ | exact goC | skip); repeat' (first | refine gP ?_ | exact gPc | refine gN ?_ | exact gNc | (refine gI ?_ ?_ <;> intro hyp <;> first | refine goF ?_ | exact goFc | refine goT ?_ | exact goTc | skip))
            exact lp_n ⟨_, by omega, q + c, t1, t3, R, _, _, _, _, _, _, _, _, _, _, _, _, _, _, _, _, _, _, _, rfl, by omega, by push_cast; rfl, by rw [hsc, hnx], by omega, ⟨prow, g1, g2, g3, gne⟩, P2, f2, u3⟩
          · rw [addRec, if_neg hmem] at hnx
            have lb : ∀ H, litA 0 3 1 1 false [.int .i64 0] (some [.int .i64 (nm : Int)]) H = some (.sl [intN nm] .none, H) := fun H => lit_none rfl rfl rfl rfl
            have ls : ∀ H, litA 0 9 1 1 false [.str []] (some [.str tx]) H = some (.sl [strV tx] .none, H) := fun H => lit_none rfl rfl rfl rfl
            obtain ⟨h2, e2, n2, k2, o2⟩ := append_N (bytes := 8) (ag := false) (f := intN) (y := .sl ([nm].map intN) .none) (ys := [nm]) intN_len (fun _ => rfl) (fun _ => rfl) lenA_sl (elems_sl intN_len) g1 (by simp; omega) (by omega) (by omega) (by omega) (by simp)
            simp only [List.map_cons, List.map_nil] at e2
            have lj1 := get_lt prow
            have row2 := (o2 j lj1 (g1.ne prow (by simp))).trans prow
            have g3' : GrN h2 9 1 (R.map (·.2)) t3 := g3.keep fun i hg _ => (o2 i (get_lt hg) (g1.ne hg (by simp))).trans hg
            obtain ⟨h3, e3, n3, k3, o3⟩ := append_N (bytes := 16) (ag := false) (f := strV) (y := .sl ([tx].map strV) .none) (ys := [tx]) strV_len (fun _ => rfl) (fun _ => rfl) lenA_sl (elems_sl strV_len) g3' (by simp; omega) (by omega) (by omega) (by omega) (by simp)
            simp only [List.map_cons, List.map_nil] at e3
            have row3 := (o3 j (by omega) (g3'.ne row2 (by simp))).trans row2
            have pp : ∀ x y, ((h3.put j (some x)).put j y).get j = y := fun x y => get_put_old (get_put_old row3)
            have kk : h3.get h1.next = some (.tok 3) := (o3 _ (by omega) (g3'.ne k2 (by simp))).trans k2
            replace fx := aI @hsl (aI @hrec (aI @prow (aI @hnum (aI @hpl (aI @hst (aI @hct (aI (eq_false hmem) (aI @lb (aI @ls (aI @e2 (aI @row2 (aI @e3 (aI @row3 @pp)))))))))))))
            (first | refine go ?_ | exact goC | skip); repeat' (first | refine gP ?_ | exact gPc | refine gN ?_ | exact gNc | (refine gI ?_ ?_ <;> intro hyp <;> first | refine goF ?_ | exact goFc | refine goT ?_ | exact goTc | skip))
            have hre : { J with recs := R ++ [(nm, tx)] }.nums = R.map (·.1) ++ [nm] := by simp [Jst.nums]
            have hte : { J with recs := R ++ [(nm, tx)] }.texts = R.map (·.2) ++ [tx] := by simp [Jst.texts]
            have hu1 : ∀ i s, t1 = .own i s → h.next ≤ i := fun i s e => u3 i (.inr (.inl ⟨s, e⟩))
            have hu2 : ∀ i s, t2 = .own i s → h.next ≤ i := fun i s e => u3 i (.inr (.inr (.inl ⟨s, e⟩)))
            have hu3 : ∀ i s, t3 = .own i s → h.next ≤ i := fun i s e => u3 i (.inr (.inr (.inr ⟨s, e⟩)))
            have hgo : ∀ (x y : Option Abs.Obj) i, i < h1.next → i ≠ j → (∀ s, t1 ≠ .own i s) → (∀ s, t3 ≠ .own i s) → ((h3.put j x).put j y).get i = h1.get i := fun x y i q1 q2 q3 q4 => by
              rw [get_put_ne q2, get_put_ne q2, o3 i (by omega) (fun i' s' e => by rintro rfl; exact q4 _ e), o2 i q1 (fun i' s' e => by rintro rfl; exact q3 _ e)]
            have lP := P.lt
            have hf2 := f2.1
            refine lp_n ⟨_, by omega, q + c, .own h1.next 1, .own h2.next 1, R ++ [(nm, tx)], _, _, _, _, _, _, _, _, _, _, _, _, _, _, _, _, _, _, _, rfl, by omega, by push_cast; rfl, by rw [hsc, hnx], by simp; omega, ⟨by rw [hre, hte]; exact pp _ _, ⟨?_, ?_, ?_, ?_⟩⟩, P2.fr (S := fun i => i = j ∨ (∃ s, t1 = .own i s) ∨ ∃ s, t3 = .own i s) ⟨by rw [put_next, put_next]; omega, fun i q1 q2 => hgo _ _ i q1 (fun e => q2 (.inl e)) (fun s e => q2 (.inr (.inl ⟨s, e⟩))) (fun s e => q2 (.inr (.inr ⟨s, e⟩)))⟩ ?_, ⟨by rw [put_next, put_next]; omega, fun i q1 _ => ?_⟩, ?_⟩
            · exact .inr ⟨_, rfl, by rw [get_put_ne (by omega), get_put_ne (by omega)]; exact kk⟩
            · refine g2.keep fun i hg ⟨s, e⟩ => (hgo _ _ i (get_lt hg) (by rintro rfl; rw [prow] at hg; simp at hg) (fun s' e' => gne i s' s e' e) (fun s' e' => g3.ne hg (by simp) _ _ e' rfl)).trans hg
            · exact .inr ⟨_, rfl, by rw [get_put_ne (by omega), get_put_ne (by omega)]; exact k3⟩
            · intro i s s' e e'
              simp only [Tok.own.injEq] at e
              have := g2.lt e'
              omega
            · rintro i hi (rfl | ⟨s, e⟩ | ⟨s, e⟩)
              · have := lP _ hi; omega
              · have := lP _ hi; have := hu1 _ _ e; omega
              · have := lP _ hi; have := hu3 _ _ e; omega
            · rw [hgo _ _ i (by omega) (by omega) (fun s e => by have := hu1 _ _ e; omega) (fun s e => by have := hu3 _ _ e; omega)]
              exact f2.2 i q1 (fun q => q)
            · rintro i (rfl | ⟨s, e⟩ | ⟨s, e⟩ | ⟨s, e⟩)
              · omega
              · simp only [Tok.own.injEq] at e; omega
              · exact hu2 _ _ e
              · simp only [Tok.own.injEq] at e; omega
      · have e : q = D.s.length := by omega
        subst e
        have hR : scanS ps 0 [] = R := by rw [hsc, List.drop_eq_nil_of_le (by omega)]; rfl
        have hop2 : openJ (conts D) = { J with recs := R } := by rw [hop, hR]
        replace fx := Dum_eq
        (first | refine go ?_ | exact goC | skip); repeat' (first | refine gP ?_ | exact gPc | refine gN ?_ | exact gNc | (refine gI ?_ ?_ <;> intro hyp <;> first | refine goF ?_ | exact goFc | refine goT ?_ | exact goTc | skip))
        rw [hop2]
        exact ⟨j, t1, t2, t3, rfl, PJ1, P2, f2, fun i hi => by rw [hj]; exact u3 i hi⟩
end Go.Proofs.YtjofjgflcogklaaGreatDoor

namespace Go.Abs
variable {F : Nat → Option AEnt}
def ClV {α : Type} (h : Heap) (v : AVal) (f : α → AVal) (l : List α) : Prop := (l = [] ∧ (v = .sl [] .nil ∨ v = .sl [] .full)) ∨ ∃ id, v = .ref id 0 l.length 1 ∧ h.get id = some (.row true 1 false (flat (l.map f)))
theorem ClV.fr {α : Type} {S : Nat → Prop} {h h' : Heap} {v : AVal} {f : α → AVal} {l : List α} (c : ClV h v f l) (fr : Fr (fun _ => False) h h') : ClV h' v f l := by
  rcases c with c | ⟨id, e, g⟩
  · exact .inl c
  · exact .inr ⟨id, e, fr.get g (fun q => q)⟩
theorem pur_tk2 (h : Heap) (xs : List AVal) (tk : Tok) : ∃ u, Pt u ∧ purify h (.sl xs tk) = some (.sl xs u) ∧ strip (.sl xs tk) = some (.sl xs u) := by
  cases tk with
  | none => exact ⟨.none, .inl rfl, rfl, rfl⟩
  | nil => exact ⟨.nil, .inr rfl, rfl, rfl⟩
  | own i s => exact ⟨.none, .inl rfl, rfl, rfl⟩
  | full => exact ⟨.none, .inl rfl, by simp only [purify], by simp only [strip]⟩
def Pu (h : Heap) (v : AVal) (xs : List AVal) : Prop := ∃ u, Pt u ∧ purify h v = some (.sl xs u) ∧ (strip v = none ∨ strip v = some (.sl xs u))
theorem Pu.sl (h : Heap) (xs : List AVal) (tk : Tok) : Pu h (.sl xs tk) xs := by
  obtain ⟨u, h1, h2, h3⟩ := pur_tk2 h xs tk
  exact ⟨u, h1, h2, .inr h3⟩
theorem ClV.pu {α : Type} [Inhabited α] {h : Heap} {v : AVal} {f : α → AVal} {l : List α} (c : ClV h v f l) (h1 : ∀ x, (f x).cells.length = 1) (h2 : ∀ x, stripL (f x).cells = some (f x).cells) (h3 : ∀ x, mk false (f x).cells = some (f x)) : Pu h v (l.map f) := by
  rcases c with ⟨rfl, rfl | rfl⟩ | ⟨id, rfl, g⟩
  · exact Pu.sl h [] .nil
  · exact Pu.sl h [] .full
  · refine ⟨.none, .inl rfl, ?_, .inl rfl⟩
    rw [pu_ref]
    have hs : stripL (flat (l.map f)) = some (flat (l.map f)) := stripm h2 l
    have hc := chunkm (f := f) (sz := 1) h1 false h3 l []
    rw [List.append_nil] at hc
    have hr : readRef h id 0 l.length 1 = some (l.map f) := by
      unfold readRef
      simp only [g]
      rw [if_pos ⟨.inl trivial, by rw [flatm_len h1]; omega⟩]
      simp only [hs, Bool.false_and, List.drop_zero]
      exact hc
    rw [hr]; rfl
theorem gv_b {g : Nat} {a : List AVal} {b : Bool} (e : PV F g a = some (.bool b)) : ∃ h', GV F g a Heap.empty = some (.bool b, h') := by
  unfold PV at e
  split at e
  · rename_i r h' hg
    refine ⟨h', ?_⟩
    have : r = .bool b := by
      cases r with
      | sl xs t => obtain ⟨u, _, q, _⟩ := pur_tk2 h' xs t; rw [q] at e; simp at e
      | _ => simp [purify] at e <;> first | exact e ▸ rfl | skip
    rw [hg, this]
  · simp at e
theorem pc_two {f : Nat} {h : Heap} {v w : AVal} {xs ys : List AVal} {b : Bool} {K : AVal → Heap → Prop} (hv : Pu h v xs) (hw : Pu h w ys) (e : ∀ u u', Pt u → Pt u' → PV F f [.sl xs u, .sl ys u'] = some (.bool b)) (k : K (.bool b) h) :
    PC F f (sc (strip v) (sc (strip w) (some []))) [v, w] h K := by
  obtain ⟨u, hu, p1, s1⟩ := hv
  obtain ⟨u', hu', p2, s2⟩ := hw
  have e := e u u' hu hu'
  obtain ⟨h', g⟩ := gv_b e
  have hn : PC F f none [v, w] h K := PC_none.2 ⟨[.sl xs u, .sl ys u'], by rw [puL_cons, puL_cons, puL_nil, p1, p2]; rfl, _, _, g, rfl, k⟩
  rcases s1 with s1 | s1 <;> rcases s2 with s2 | s2 <;> rw [s1, s2]
  · exact hn
  · exact hn
  · exact hn
  · exact PC_some.2 ⟨_, e, k⟩
end Go.Abs
namespace Go.Proofs.YtjofjgflcogklaaGreatDoor
open Go Go.Abs Go.Sha Go.Jn
variable {h : Heap} {d b p w : Nat} {D : Dsk}
theorem cmp_eql (b : Bool) : cmpA .eql (some b) = some (.bool b) := rfl
theorem afresh_c {α : Type} [Inhabited α] {f : α → AVal} (h1 : ∀ x, (f x).cells.length = 1) (l : List α) (hl : l.length ≤ 1000000) (ty bytes : Nat) (hb : bytes ≤ 10000) (t : Tok) (h : Heap) :
    ∃ v h', evalX (.afresh ty bytes 1 false) [.sl [] .full, .sl (l.map f) t] h = some (v, h') ∧ ClV h' v f l ∧ Fr (fun _ => False) h h' := by
  have he : elemsA h 1 (.sl (l.map f) t) = some (flat (l.map f)) := elems_sl h1
  have hlen : lenA (.sl (l.map f) t) = some l.length := lenA_sl
  by_cases hn : l = []
  · subst hn
    exact ⟨.sl [] .full, h, rfl, .inl ⟨rfl, .inr rfl⟩, Fr.refl _ _⟩
  · have hne : l.length ≠ 0 := fun e => hn (List.length_eq_zero_iff.1 e)
    have hr := roomOk_of (n := 0 + l.length) (bytes := bytes) (by omega) hb
    refine ⟨.ref h.next 0 l.length 1, h.push (.row true 1 false (flat (l.map f))), ?_, .inr ⟨_, rfl, get_push_eq rfl⟩, (Fr.refl _ _).push _⟩
    simp only [evalX, appendA, hlen, he, hne, if_false, List.length_nil, hr]
    rfl
theorem cloneI_c (l : List Nat) (hl : l.length ≤ 1000000) {tk : Tok} {h : Heap} (g : GrN h 3 1 l tk) : CV F 62 [.sl (l.map intN) tk] h (fun v h' => ClV h' v intN l ∧ Fr (fun _ => False) h h') := by
  refine CV_wp (fn := c62) rfl ?_
  dsimp only [oT, oN, oV, oG, oW, c62]
  rcases g with ⟨rfl, rfl⟩ | ⟨id, rfl, g⟩
  · have e : ∀ (x : List AVal), slEq (.sl x .nil) (.sl [] .nil) = some true := fun _ => rfl
    replace fx := aI @bin_sl (aI @e @cmp_eql)
    (first | refine go ?_ | exact goC | skip); repeat' (first | refine gP ?_ | exact gPc | refine gN ?_ | exact gNc | (refine gI ?_ ?_ <;> intro hyp <;> first | refine goF ?_ | exact goFc | refine goT ?_ | exact goTc | skip))
    exact ⟨.inl ⟨rfl, .inl rfl⟩, Fr.refl _ _⟩
  · have e : ∀ (x : List AVal), slEq (.sl x (.own id 1)) (.sl [] .nil) = some false := fun _ => rfl
    obtain ⟨v, h', e1, e2, e3⟩ := afresh_c intN_len l hl 3 8 (by omega) (.own id 1) h
    replace fx := aI @bin_sl (aI @e (aI @cmp_eql (aI @evx_elit @e1)))
    (first | refine go ?_ | exact goC | skip); repeat' (first | refine gP ?_ | exact gPc | refine gN ?_ | exact gNc | (refine gI ?_ ?_ <;> intro hyp <;> first | refine goF ?_ | exact goFc | refine goT ?_ | exact goTc | skip))
    exact ⟨e2, e3⟩
theorem cloneS_c (l : List Bs) (hl : l.length ≤ 1000000) {tk : Tok} {h : Heap} (g : GrN h 9 1 l tk) : CV F 61 [.sl (l.map strV) tk] h (fun v h' => ClV h' v strV l ∧ Fr (fun _ => False) h h') := by
  refine CV_wp (fn := c61) rfl ?_
  dsimp only [oT, oN, oV, oG, oW, c61]
  rcases g with ⟨rfl, rfl⟩ | ⟨id, rfl, g⟩
  · have e : ∀ (x : List AVal), slEq (.sl x .nil) (.sl [] .nil) = some true := fun _ => rfl
    replace fx := aI @bin_sl (aI @e @cmp_eql)
    (first | refine go ?_ | exact goC | skip); repeat' (first | refine gP ?_ | exact gPc | refine gN ?_ | exact gNc | (refine gI ?_ ?_ <;> intro hyp <;> first | refine goF ?_ | exact goFc | refine goT ?_ | exact goTc | skip))
    exact ⟨.inl ⟨rfl, .inl rfl⟩, Fr.refl _ _⟩
  · have e : ∀ (x : List AVal), slEq (.sl x (.own id 1)) (.sl [] .nil) = some false := fun _ => rfl
    obtain ⟨v, h', e1, e2, e3⟩ := afresh_c strV_len l hl 9 16 (by omega) (.own id 1) h
    replace fx := aI @bin_sl (aI @e (aI @cmp_eql (aI @evx_elit @e1)))
    (first | refine go ?_ | exact goC | skip); repeat' (first | refine gP ?_ | exact gPc | refine gN ?_ | exact gNc | (refine gI ?_ ?_ <;> intro hyp <;> first | refine goF ?_ | exact goFc | refine goT ?_ | exact goTc | skip))
    exact ⟨e2, e3⟩
theorem numbers_c {j : Nat} {t1 t2 t3 : Tok} {J : Jst} (P : PJ h j d t1 t2 t3 J) (hl : J.nums.length ≤ 1000000) : CV F 42 [.ptr j 0] h (fun v h' => ClV h' v intN J.nums ∧ Fr (fun _ => False) h h') := by
  refine CV_wp (fn := c42) rfl ?_
  dsimp only [oT, oN, oV, oG, oW, c42]
  have prow := P.row
  replace fx := @prow
  (first | refine go ?_ | exact goC | skip); repeat' (first | refine gP ?_ | exact gPc | refine gN ?_ | exact gNc | (refine gI ?_ ?_ <;> intro hyp <;> first | refine goF ?_ | exact goFc | refine goT ?_ | exact goTc | skip))
  refine CV_mono (cloneI_c _ hl P.tk.g1) ?_
  rintro v h' ⟨q1, q2⟩
  replace fx := Dum_eq
  (first | refine go ?_ | exact goC | skip); repeat' (first | refine gP ?_ | exact gPc | refine gN ?_ | exact gNc | (refine gI ?_ ?_ <;> intro hyp <;> first | refine goF ?_ | exact goFc | refine goT ?_ | exact goTc | skip))
  exact ⟨q1, q2⟩
theorem texts_c {j : Nat} {t1 t2 t3 : Tok} {J : Jst} (P : PJ h j d t1 t2 t3 J) (hl : J.texts.length ≤ 1000000) : CV F 21 [.ptr j 0] h (fun v h' => ClV h' v strV J.texts ∧ Fr (fun _ => False) h h') := by
  refine CV_wp (fn := c21) rfl ?_
  dsimp only [oT, oN, oV, oG, oW, c21]
  have prow := P.row
  replace fx := @prow
  (first | refine go ?_ | exact goC | skip); repeat' (first | refine gP ?_ | exact gPc | refine gN ?_ | exact gNc | (refine gI ?_ ?_ <;> intro hyp <;> first | refine goF ?_ | exact goFc | refine goT ?_ | exact goTc | skip))
  refine CV_mono (cloneS_c _ hl P.tk.g3) ?_
  rintro v h' ⟨q1, q2⟩
  replace fx := Dum_eq
  (first | refine go ?_ | exact goC | skip); repeat' (first | refine gP ?_ | exact gPc | refine gN ?_ | exact gNc | (refine gI ?_ ?_ <;> intro hyp <;> first | refine goF ?_ | exact goFc | refine goT ?_ | exact goTc | skip))
  exact ⟨q1, q2⟩
theorem bad_c {j : Nat} {t1 t2 t3 : Tok} {J : Jst} (P : PJ h j d t1 t2 t3 J) (hl : J.bad.length ≤ 1000000) : CV F 22 [.ptr j 0] h (fun v h' => ClV h' v intN J.bad ∧ Fr (fun _ => False) h h') := by
  refine CV_wp (fn := c22) rfl ?_
  dsimp only [oT, oN, oV, oG, oW, c22]
  have prow := P.row
  replace fx := @prow
  (first | refine go ?_ | exact goC | skip); repeat' (first | refine gP ?_ | exact gPc | refine gN ?_ | exact gNc | (refine gI ?_ ?_ <;> intro hyp <;> first | refine goF ?_ | exact goFc | refine goT ?_ | exact goTc | skip))
  refine CV_mono (cloneI_c _ hl P.tk.g2) ?_
  rintro v h' ⟨q1, q2⟩
  replace fx := Dum_eq
  (first | refine go ?_ | exact goC | skip); repeat' (first | refine gP ?_ | exact gPc | refine gN ?_ | exact gNc | (refine gI ?_ ?_ <;> intro hyp <;> first | refine goF ?_ | exact goFc | refine goT ?_ | exact goTc | skip))
  exact ⟨q1, q2⟩
theorem next_c {j : Nat} {t1 t2 t3 : Tok} {J : Jst} (P : PJ h j d t1 t2 t3 J) : CV F 37 [.ptr j 0] h (fun v h' => v = .int .i64 (J.next : Int) ∧ h' = h) := by
  refine CV_wp (fn := c37) rfl ?_
  dsimp only [oT, oN, oV, oG, oW, c37]
  have prow := P.row
  replace fx := @prow
  (first | refine go ?_ | exact goC | skip); repeat' (first | refine gP ?_ | exact gPc | refine gN ?_ | exact gNc | (refine gI ?_ ?_ <;> intro hyp <;> first | refine goF ?_ | exact goFc | refine goT ?_ | exact goTc | skip))
theorem room_c {j : Nat} {t1 t2 t3 : Tok} {J : Jst} (P : PJ h j d t1 t2 t3 J) (PD0 : PD h d b p w D) (hf : J.fin ≤ D.s.length) : CV F 38 [.ptr j 0] h (fun v h' => v = .int .i64 ((D.s.length : Int) - (J.fin : Int)) ∧ h' = h) := by
  refine CV_wp (fn := c38) rfl ?_
  dsimp only [oT, oN, oV, oG, oW, c38]
  have prow := P.row
  have L := cv_rw (len_c PD0)
  have hl := PD0.ok.len
  replace fx := aI @prow @L
  (first | refine go ?_ | exact goC | skip); repeat' (first | refine gP ?_ | exact gPc | refine gN ?_ | exact gNc | (refine gI ?_ ?_ <;> intro hyp <;> first | refine goF ?_ | exact goFc | refine goT ?_ | exact goTc | skip))
theorem rroom_c {j r s : Nat} {t1 t2 t3 : Tok} {J : Jst} (P : RJ h j r t1 t2 t3 J) (R0 : RD h r s D) (hf : J.fin ≤ D.s.length) : CV F 59 [.ptr j 0] h (fun v h' => v = .int .i64 ((D.s.length : Int) - (J.fin : Int)) ∧ h' = h) := by
  refine CV_wp (fn := c59) rfl ?_
  dsimp only [oT, oN, oV, oG, oW, c59]
  have prow := P.row
  have L := cv_rw (rlen_c R0)
  have hl := R0.ok.len
  replace fx := aI @prow @L
  (first | refine go ?_ | exact goC | skip); repeat' (first | refine gP ?_ | exact gPc | refine gN ?_ | exact gNc | (refine gI ?_ ?_ <;> intro hyp <;> first | refine goF ?_ | exact goFc | refine goT ?_ | exact goTc | skip))
def missing (l : List Nat) (n : Nat) : List Nat := (List.range n).filter fun i => decide (1 ≤ i) && !decide (i ∈ l)
theorem damaged_eq (J : Jst) : damaged J = missing J.nums J.next := rfl
theorem missing_succ (l : List Nat) (n : Nat) (hn : 1 ≤ n) : missing l (n + 1) = missing l n ++ (if n ∈ l then [] else [n]) := by
  rw [missing, missing, List.range_succ, List.filter_append]
  congr 1
  by_cases h : n ∈ l <;> simp [h, hn]
theorem missing_one (l : List Nat) : missing l 1 = [] := rfl
theorem missing_len (l : List Nat) (n : Nat) : (missing l n).length ≤ n := by
  have := List.length_filter_le (fun i => decide (1 ≤ i) && !decide (i ∈ l)) (List.range n)
  simpa [missing] using this
theorem mem_take_succ (l : List Nat) {k : Nat} (hk : k < l.length) (i : Nat) : i ∈ l.take (k + 1) ↔ i = nth l k ∨ i ∈ l.take k := by
  rw [List.take_succ_eq_append_getElem hk, List.mem_append, nth_eq hk]
  simp [or_comm]
def inF (l : List Nat) (i : Nat) : Option AVal := if i ∈ l then some (.bool true) else none
theorem damaged_c {j : Nat} {t1 t2 t3 : Tok} {J : Jst} (P : PJ h j d t1 t2 t3 J) (hl : J.nums.length ≤ 1000000) (hn : J.next ≤ 5000) (hb : ∀ x ∈ J.nums, x < 5000) (h1 : 1 ≤ J.next) :
    CV F 24 [.ptr j 0] h (fun v h' => ∃ tk, v = .sl ((damaged J).map intN) tk ∧ Fr (fun _ => False) h h') := by
  refine CV_wp (fn := c24) rfl ?_
  dsimp only [oT, oN, oV, oG, oW, c24]
  have prow := P.row
  have lj := get_lt prow
  obtain ⟨m, hm⟩ : ∃ m, m = h.next := ⟨_, rfl⟩
  replace fx := @prow
  (first | refine go ?_ | exact goC | skip); repeat' (first | refine gP ?_ | exact gPc | refine gN ?_ | exact gNc | (refine gI ?_ ?_ <;> intro hyp <;> first | refine goF ?_ | exact goFc | refine goT ?_ | exact goTc | skip))
  rw [← hm]
  refine w_loop (fun q vs h' => ∃ (k : Nat) (c : Nat) (es : List (Nat × AVal × AVal)) (x1 x2 x3 x4 x5 x6 : AVal), q = J.nums.length - k ∧ k ≤ J.nums.length ∧ vs = [.ptr j 0, .sl [] .nil, .mp m, x1, x2, x3, .sl (J.nums.map intN) t1, .int .i64 (J.nums.length : Int), .int .i64 (k : Int), x4, x5, x6] ∧
      h'.get m = some (.map (.int .i64) c es) ∧ MapIs es 5000 (inF (J.nums.take k)) ∧ Fr (fun i => i = m) h h') J.nums.length
    ⟨0, 0, [], _, _, _, _, _, _, rfl, by omega, rfl, get_push_eq hm, mapIs_nil 5000, (Fr.refl _ _).push _⟩ ?_
  · rintro q vs h1 ⟨k, c, es, x1, x2, x3, x4, x5, x6, rfl, hk, rfl, gm, hM, f1⟩
    by_cases hkl : k < J.nums.length
    · have hlt := hb _ (nth_mem hkl)
      obtain ⟨n, hnn⟩ : ∃ n, n = nth J.nums k := ⟨_, rfl⟩
      have hM' := hM.put (i := n) (by rw [hnn]; exact hlt) (.bool true) c
      have hx : upd (inF (J.nums.take k)) n (some (.bool true)) = inF (J.nums.take (k + 1)) := by
        funext i
        simp only [upd, inF, mem_take_succ _ hkl, ← hnn]
        by_cases e : i = n <;> simp [e]
      rw [hx] at hM'
      have hs := hnn.symm
      have hpl : plain (.bool true) = true := rfl
      replace fx := aI @gm (aI @hs @intN_eq)
      (first | refine go ?_ | exact goC | skip); repeat' (first | refine gP ?_ | exact gPc | refine gN ?_ | exact gNc | (refine gI ?_ ?_ <;> intro hyp <;> first | refine goF ?_ | exact goFc | refine goT ?_ | exact goTc | skip))
      exact lp_n ⟨_, by omega, k + 1, _, _, _, _, _, _, _, _, rfl, by omega, by push_cast; rfl, get_put_old gm, hM', f1.put (.inl rfl) _⟩
    · have e : k = J.nums.length := by omega
      subst e
      rw [List.take_length] at hM
      have prow1 := f1.get prow (show ¬ j = m by omega)
      have hm1 := missing_one J.nums
      replace fx := @prow1
      (first | refine go ?_ | exact goC | skip); repeat' (first | refine gP ?_ | exact gPc | refine gN ?_ | exact gNc | (refine gI ?_ ?_ <;> intro hyp <;> first | refine goF ?_ | exact goFc | refine goT ?_ | exact goTc | skip))
      refine w_loop (fun q vs h' => ∃ (n : Nat) (tk : Tok) (x1 x2 x3 x4 x5 x6 x7 : AVal), q = J.next - n ∧ 1 ≤ n ∧ n ≤ J.next ∧ vs = [.ptr j 0, .sl [] .nil, .mp m, x1, .sl ((missing J.nums n).map intN) tk, .int .i64 (n : Int), x2, x3, x4, x5, x6, x7] ∧
          h'.get m = some (.map (.int .i64) c es) ∧ GrN h' 3 1 (missing J.nums n) tk ∧ (∀ i s, tk = .own i s → h.next < i) ∧ Fr (fun i => i = m) h h') (J.next - 1)
        ⟨1, .nil, _, _, _, _, _, _, _, by omega, by omega, by omega, by rw [hm1]; rfl, gm, by rw [hm1]; exact GrN.nil _ _ _, by simp, f1⟩ ?_
      clear f1 gm prow1
      rintro q vs h1 ⟨n, tk, x1, x2, x3, x4, x5, x6, x7, rfl, hn1, hnx, rfl, gm, G, u1, f1⟩
      have prow1 := f1.get prow (show ¬ j = m by omega)
      by_cases hlt : n < J.next
      · have hms := missing_succ J.nums n hn1
        have hml := missing_len J.nums n
        by_cases hin : n ∈ J.nums
        · obtain ⟨q, hq⟩ := hM.getS (i := n) (v := .bool true) (by simp [inF, hin])
          rw [if_pos hin, List.append_nil] at hms
          have hlk := fun z ok h c => lookM_some hq z ok h c
          replace fx := aI @prow1 (aI @gm @hlk)
          (first | refine go ?_ | exact goC | skip); repeat' (first | refine gP ?_ | exact gPc | refine gN ?_ | exact gNc | (refine gI ?_ ?_ <;> intro hyp <;> first | refine goF ?_ | exact goFc | refine goT ?_ | exact goTc | skip))
          exact lp_n ⟨_, by omega, n + 1, tk, _, _, _, _, _, _, _, rfl, by omega, by omega, by rw [hms]; push_cast; rfl, gm, by rw [hms]; exact G, u1, f1⟩
        · have hq := hM.getN (i := n) (by simp [inF, hin])
          rw [if_neg hin] at hms
          have hlk := fun z ok h c => lookM_none hq z ok h c
          have lb : ∀ H, litA 0 3 1 1 false [.int .i64 0] (some [.int .i64 (n : Int)]) H = some (.sl [intN n] .none, H) := fun H => lit_none rfl rfl rfl rfl
          obtain ⟨h2, e2, n2, k2, o2⟩ := append_N (bytes := 8) (ag := false) (f := intN) (y := .sl ([n].map intN) .none) (ys := [n]) intN_len (fun _ => rfl) (fun _ => rfl) lenA_sl (elems_sl intN_len) G (by simp; omega) (by omega) (by omega) (by omega) (by simp)
          simp only [List.map_cons, List.map_nil] at e2
          rw [← hms] at e2
          replace fx := aI @prow1 (aI @gm (aI @hlk (aI @lb @e2)))
          (first | refine go ?_ | exact goC | skip); repeat' (first | refine gP ?_ | exact gPc | refine gN ?_ | exact gNc | (refine gI ?_ ?_ <;> intro hyp <;> first | refine goF ?_ | exact goFc | refine goT ?_ | exact goTc | skip))
          have hf1 := f1.1
          have hlm := get_lt gm
          refine lp_n ⟨_, by omega, n + 1, _, _, _, _, _, _, _, _, rfl, by omega, by omega, by push_cast; rfl, (o2 m hlm (G.ne gm (by simp))).trans gm, .inr ⟨_, rfl, k2⟩, fun i s e => ?_, ⟨by omega, fun i hi hne => ?_⟩⟩
          · simp only [Tok.own.injEq] at e; omega
          · rw [o2 i (by omega) (fun i' s e e' => by have := u1 _ _ e; omega)]; exact f1.2 i hi hne
      · have e : n = J.next := by omega
        subst e
        replace fx := @prow1
        (first | refine go ?_ | exact goC | skip); repeat' (first | refine gP ?_ | exact gPc | refine gN ?_ | exact gNc | (refine gI ?_ ?_ <;> intro hyp <;> first | refine goF ?_ | exact goFc | refine goT ?_ | exact goTc | skip))
        refine ⟨tk, rfl, f1.1, fun i hi _ => f1.2 i hi (by omega)⟩
theorem has_n (l : List Nat) (n : Nat) (hl : l.length ≤ 1000000) (t : Tok) (ht : Pt t) : PV F 57 [.sl (l.map intN) t, .int .i64 (n : Int)] = some (.bool (decide (n ∈ l))) := by
  have := has_v (l.map fun i : Nat => (i : Int)) n (by simpa using hl) t ht
  rw [List.map_map] at this
  rw [show l.map intN = l.map (AVal.int .i64 ∘ fun i : Nat => (i : Int)) from rfl, this]
  congr 2
  have : (n : Int) ∈ l.map (fun i : Nat => (i : Int)) ↔ n ∈ l := by
    rw [List.mem_map]
    exact ⟨fun ⟨x, hx, e⟩ => by rwa [← Int.ofNat.inj e], fun hx => ⟨n, hx, rfl⟩⟩
  exact decide_eq_decide.2 this
theorem rdamaged_c {j r : Nat} {t1 t2 t3 : Tok} {J : Jst} (P : RJ h j r t1 t2 t3 J) (hl : J.nums.length ≤ 1000000) (hn : J.next ≤ 5000) (h1 : 1 ≤ J.next) :
    CV F 58 [.ptr j 0] h (fun v h' => ∃ tk, v = .sl ((damaged J).map intN) tk ∧ Fr (fun _ => False) h h') := by
  refine CV_wp (fn := c58) rfl ?_
  dsimp only [oT, oN, oV, oG, oW, c58]
  have prow := P.row
  have hm1 := missing_one J.nums
  replace fx := @prow
  (first | refine go ?_ | exact goC | skip); repeat' (first | refine gP ?_ | exact gPc | refine gN ?_ | exact gNc | (refine gI ?_ ?_ <;> intro hyp <;> first | refine goF ?_ | exact goFc | refine goT ?_ | exact goTc | skip))
  have prow0 := prow
  refine w_loop (fun q vs h' => ∃ (n : Nat) (tk : Tok) (x1 x2 x3 x4 : AVal), q = J.next - n ∧ 1 ≤ n ∧ n ≤ J.next ∧ vs = [.ptr j 0, x1, .sl ((missing J.nums n).map intN) tk, .int .i64 (n : Int), x2, x3, x4] ∧
      GrN h' 3 1 (missing J.nums n) tk ∧ (∀ i s, tk = .own i s → h.next ≤ i) ∧ Fr (fun _ => False) h h') (J.next - 1)
    ⟨1, .nil, _, _, _, _, by omega, by omega, by omega, by rw [hm1]; rfl, by rw [hm1]; exact GrN.nil _ _ _, by simp, Fr.refl _ _⟩ ?_
  rintro q vs h1 ⟨n, tk, x1, x2, x3, x4, rfl, hn1, hnx, rfl, G, u1, f1⟩
  have prow1 := f1.get prow (fun q => q)
  obtain ⟨u, hu, hst⟩ := P.tk.g1.strip intN
  have hh := has_n J.nums n hl u hu
  by_cases hlt : n < J.next
  · have hms := missing_succ J.nums n hn1
    have hml := missing_len J.nums n
    by_cases hin : n ∈ J.nums
    · rw [if_pos hin, List.append_nil] at hms
      replace fx := aI @prow1 (aI @hst (aI @hh (eq_true hin)))
      (first | refine go ?_ | exact goC | skip); repeat' (first | refine gP ?_ | exact gPc | refine gN ?_ | exact gNc | (refine gI ?_ ?_ <;> intro hyp <;> first | refine goF ?_ | exact goFc | refine goT ?_ | exact goTc | skip))
      exact lp_n ⟨_, by omega, n + 1, tk, _, _, _, _, rfl, by omega, by omega, by rw [hms]; push_cast; rfl, by rw [hms]; exact G, u1, f1⟩
    · rw [if_neg hin] at hms
      have lb : ∀ H, litA 0 3 1 1 false [.int .i64 0] (some [.int .i64 (n : Int)]) H = some (.sl [intN n] .none, H) := fun H => lit_none rfl rfl rfl rfl
      obtain ⟨h2, e2, n2, k2, o2⟩ := append_N (bytes := 8) (ag := false) (f := intN) (y := .sl ([n].map intN) .none) (ys := [n]) intN_len (fun _ => rfl) (fun _ => rfl) lenA_sl (elems_sl intN_len) G (by simp; omega) (by omega) (by omega) (by omega) (by simp)
      simp only [List.map_cons, List.map_nil] at e2
      rw [← hms] at e2
      replace fx := aI @prow1 (aI @hst (aI @hh (aI (eq_false hin) (aI @lb @e2))))
      (first | refine go ?_ | exact goC | skip); repeat' (first | refine gP ?_ | exact gPc | refine gN ?_ | exact gNc | (refine gI ?_ ?_ <;> intro hyp <;> first | refine goF ?_ | exact goFc | refine goT ?_ | exact goTc | skip))
      have hf1 := f1.1
      refine lp_n ⟨_, by omega, n + 1, _, _, _, _, _, rfl, by omega, by omega, by push_cast; rfl, .inr ⟨_, rfl, k2⟩, fun i s e => ?_, ⟨by omega, fun i hi hne => ?_⟩⟩
      · simp only [Tok.own.injEq] at e; omega
      · rw [o2 i (by omega) (fun i' s e e' => by have := u1 _ _ e; omega)]; exact f1.2 i hi hne
  · have e : n = J.next := by omega
    subst e
    replace fx := @prow1
    (first | refine go ?_ | exact goC | skip); repeat' (first | refine gP ?_ | exact gPc | refine gN ?_ | exact gNc | (refine gI ?_ ?_ <;> intro hyp <;> first | refine goF ?_ | exact goFc | refine goT ?_ | exact goTc | skip))
    exact ⟨tk, rfl, f1⟩
end Go.Proofs.YtjofjgflcogklaaGreatDoor

namespace Go.Proofs.YtjofjgflcogklaaGreatDoor
open Go Go.Abs Go.Sha Go.Jn
variable {h : Heap} {d b p w : Nat} {D : Dsk}
def wrAll (D : Dsk) (at0 : Nat) : List Bs → Int × Dsk
  | [] => (0, D)
  | s :: l => if (D.write (at0 : Int) s).1 = 0 then wrAll (D.write (at0 : Int) s).2 (at0 + 1) l else D.write (at0 : Int) s
def rdAll (D : Dsk) (at0 : Nat) : List Bs → Bool → Int × Bool
  | [], r => (0, r)
  | s :: l, r => if (D.read (at0 : Int)).2 = 0 then rdAll D (at0 + 1) l (r && decide (s = (D.read (at0 : Int)).1)) else ((D.read (at0 : Int)).2, false)
def writeJ (D : Dsk) (at0 : Nat) (l : List Bs) : (Int × Bool) × Dsk :=
  if (wrAll D at0 l).1 = 0 then (if (wrAll D at0 l).2.flush.1 = 0 then (rdAll (wrAll D at0 l).2.flush.2 at0 l true, (wrAll D at0 l).2.flush.2) else (((wrAll D at0 l).2.flush.1, false), (wrAll D at0 l).2.flush.2)) else (((wrAll D at0 l).1, false), (wrAll D at0 l).2)
theorem write_slen (D : Dsk) (i : Int) (s : Bs) : (D.write i s).2.s.length = D.s.length := by
  unfold Dsk.write
  split
  · rfl
  · split
    · rfl
    · split
      · split
        · rfl
        · simp
      · rfl
theorem flush_slen (D : Dsk) : D.flush.2.s.length = D.s.length := by
  unfold Dsk.flush
  split
  · rfl
  · split
    · rfl
    · simp [mountS_len]
theorem wrAll_slen (D : Dsk) (a : Nat) (l : List Bs) : (wrAll D a l).2.s.length = D.s.length := by
  induction l generalizing D a with
  | nil => rfl
  | cons s l ih =>
    unfold wrAll
    split
    · rw [ih, write_slen]
    · exact write_slen _ _ _
theorem writeJ_slen (D : Dsk) (a : Nat) (l : List Bs) : (writeJ D a l).2.s.length = D.s.length := by
  unfold writeJ
  split
  · split
    · rw [flush_slen, wrAll_slen]
    · rw [flush_slen, wrAll_slen]
  · exact wrAll_slen _ _ _
theorem wrAll_drop {D : Dsk} {a k : Nat} {l : List Bs} (hk : k < l.length) : wrAll D a (l.drop k) = if (D.write (a : Int) (nth l k)).1 = 0 then wrAll (D.write (a : Int) (nth l k)).2 (a + 1) (l.drop (k + 1)) else D.write (a : Int) (nth l k) := by
  rw [List.drop_eq_getElem_cons hk, nth_eq hk, wrAll]
theorem rdAll_drop {D : Dsk} {a k : Nat} {l : List Bs} {r : Bool} (hk : k < l.length) : rdAll D a (l.drop k) r = if (D.read (a : Int)).2 = 0 then rdAll D (a + 1) (l.drop (k + 1)) (r && decide (nth l k = (D.read (a : Int)).1)) else ((D.read (a : Int)).2, false) := by
  rw [List.drop_eq_getElem_cons hk, nth_eq hk, rdAll]
theorem jwrite_c {j : Nat} {t1 t2 t3 : Tok} {J : Jst} (P : PJ h j d t1 t2 t3 J) (Q : PD h d b p w D) (sep : ¬ PS d b p w j) (at0 : Nat) (hat : at0 ≤ 1000000) (l : List Bs) (hl : l.length ≤ 1000000) (hs : ∀ s ∈ l, s.length ≤ 1000000) :
    CV F 63 [.ptr j 0, .int .i64 (at0 : Int), .sl (l.map strV) .none] h (fun v h' => v = .tup [.int .i64 (writeJ D at0 l).1.1, .bool (writeJ D at0 l).1.2] ∧ PD h' d b p w (writeJ D at0 l).2 ∧ Fr (PS d b p w) h h') := by
  refine CV_wp (fn := c63) rfl ?_
  dsimp only [oT, oN, oV, oG, oW, c63]
  have prow := P.row
  have hE : writeJ D at0 l = writeJ D at0 l := rfl
  replace fx := Dum_eq
  (first | refine go ?_ | exact goC | skip); repeat' (first | refine gP ?_ | exact gPc | refine gN ?_ | exact gNc | (refine gI ?_ ?_ <;> intro hyp <;> first | refine goF ?_ | exact goFc | refine goT ?_ | exact goTc | skip))
  refine w_loop (fun q vs h' => ∃ (k : Nat) (E : Dsk) (x1 x2 x3 x4 x5 x6 x7 x8 x9 x10 x11 x12 x13 x14 x15 x16 x17 x18 : AVal), q = l.length - k ∧ k ≤ l.length ∧ vs = [.ptr j 0, .int .i64 (at0 : Int), .sl (l.map strV) .none, x1, x2, x3, x4, x5, x6, x7, x8, x9, x10, x11, .sl (l.map strV) .none, .int .i64 (l.length : Int), .int .i64 (k : Int), x12, x13, x14, x15, x16, x17, x18, .tup []] ∧
      wrAll D at0 l = wrAll E (at0 + k) (l.drop k) ∧ PD h' d b p w E ∧ Fr (PS d b p w) h h') l.length
    ⟨0, D, _, _, _, _, _, _, _, _, _, _, _, _, _, _, _, _, _, _, rfl, by omega, rfl, rfl, Q, Fr.refl _ _⟩ ?_
  rintro q vs h1 ⟨k, E, x1, x2, x3, x4, x5, x6, x7, x8, x9, x10, x11, x12, x13, x14, x15, x16, x17, x18, rfl, hk, rfl, hw, Q1, f1⟩
  have prow1 := f1.get prow sep
  by_cases hkl : k < l.length
  · have hsk := hs _ (nth_mem hkl)
    have hd := wrAll_drop (D := E) (a := at0 + k) hkl
    have ec : (at0 : Int) + (k : Int) = ((at0 + k : Nat) : Int) := (Int.natCast_add _ _).symm
    replace fx := aI @prow1 @strV_eq
    (first | refine go ?_ | exact goC | skip); repeat' (first | refine gP ?_ | exact gPc | refine gN ?_ | exact gNc | (refine gI ?_ ?_ <;> intro hyp <;> first | refine goF ?_ | exact goFc | refine goT ?_ | exact goTc | skip))
    rw [ec]
    refine CV_mono (write_c Q1 _ _ (by omega)) ?_
    rintro v h2 ⟨rfl, Q2, f2⟩
    have f12 := f1.trans f2
    by_cases hz : (E.write ((at0 + k : Nat) : Int) (nth l k)).1 = 0
    · rw [if_pos hz] at hd
      replace fx := @hz
      (first | refine go ?_ | exact goC | skip); repeat' (first | refine gP ?_ | exact gPc | refine gN ?_ | exact gNc | (refine gI ?_ ?_ <;> intro hyp <;> first | refine goF ?_ | exact goFc | refine goT ?_ | exact goTc | skip))
      exact lp_n ⟨_, by omega, k + 1, _, _, _, _, _, _, _, _, _, _, _, _, _, _, _, _, _, _, _, rfl, by omega, by push_cast; rfl, by rw [hw, hd]; rfl, Q2, f12⟩
    · rw [if_neg hz] at hd
      have e1 : writeJ D at0 l = (((E.write ((at0 + k : Nat) : Int) (nth l k)).1, false), (E.write ((at0 + k : Nat) : Int) (nth l k)).2) := by
        unfold writeJ; rw [hw, hd, if_neg hz]
      replace fx := @hz
      (first | refine go ?_ | exact goC | skip); repeat' (first | refine gP ?_ | exact gPc | refine gN ?_ | exact gNc | (refine gI ?_ ?_ <;> intro hyp <;> first | refine goF ?_ | exact goFc | refine goT ?_ | exact goTc | skip))
      rw [e1]
      exact ⟨rfl, Q2, f12⟩
  · have e : k = l.length := by omega
    subst e
    have hwd : wrAll D at0 l = (0, E) := by rw [hw, List.drop_eq_nil_of_le (by omega)]; rfl
    replace fx := @prow1
    (first | refine go ?_ | exact goC | skip); repeat' (first | refine gP ?_ | exact gPc | refine gN ?_ | exact gNc | (refine gI ?_ ?_ <;> intro hyp <;> first | refine goF ?_ | exact goFc | refine goT ?_ | exact goTc | skip))
    refine CV_mono (flush_c Q1) ?_
    rintro v h2 ⟨rfl, Q2, f2⟩
    have f12 := f1.trans f2
    have prow2 := f12.get prow sep
    by_cases hz : E.flush.1 = 0
    · have e1 : writeJ D at0 l = (rdAll E.flush.2 at0 l true, E.flush.2) := by
        unfold writeJ; rw [hwd, if_pos rfl, if_pos hz]
      obtain ⟨G, hG⟩ : ∃ G, G = E.flush.2 := ⟨_, rfl⟩
      rw [← hG] at e1 Q2
      replace fx := @hz
      (first | refine go ?_ | exact goC | skip); repeat' (first | refine gP ?_ | exact gPc | refine gN ?_ | exact gNc | (refine gI ?_ ?_ <;> intro hyp <;> first | refine goF ?_ | exact goFc | refine goT ?_ | exact goTc | skip))
      refine w_loop (fun q vs h' => ∃ (k : Nat) (r : Bool) (x1 x2 x3 x4 x5 x6 x7 x8 x9 x10 x11 x12 x13 x14 x15 x16 x17 x18 : AVal), q = l.length - k ∧ k ≤ l.length ∧ vs = [.ptr j 0, .int .i64 (at0 : Int), .sl (l.map strV) .none, x1, x2, x3, x4, x5, x6, .bool r, x7, x8, x9, x10, x11, x12, x13, x14, x15, x16, .sl (l.map strV) .none, .int .i64 (l.length : Int), .int .i64 (k : Int), x17, x18] ∧
          rdAll G at0 l true = rdAll G (at0 + k) (l.drop k) r ∧ PD h' d b p w G ∧ Fr (PS d b p w) h h') l.length
        ⟨0, true, _, _, _, _, _, _, _, _, _, _, _, _, _, _, _, _, _, _, rfl, by omega, rfl, rfl, Q2, f12⟩ ?_
      clear prow1 f1 f2 Q1 Q2 f12 prow2
      rintro q vs h3 ⟨k, r, x1, x2, x3, x4, x5, x6, x7, x8, x9, x10, x11, x12, x13, x14, x15, x16, x17, x18, rfl, hk, rfl, hw, Q1, f1⟩
      have prow1 := f1.get prow sep
      by_cases hkl : k < l.length
      · have hd := rdAll_drop (D := G) (a := at0 + k) (r := r) hkl
        have ec : (at0 : Int) + (k : Int) = ((at0 + k : Nat) : Int) := (Int.natCast_add _ _).symm
        replace fx := aI @prow1 @strV_eq
        (first | refine go ?_ | exact goC | skip); repeat' (first | refine gP ?_ | exact gPc | refine gN ?_ | exact gNc | (refine gI ?_ ?_ <;> intro hyp <;> first | refine goF ?_ | exact goFc | refine goT ?_ | exact goTc | skip))
        rw [ec]
        refine CV_mono (read_c Q1 _) ?_
        rintro v h4 ⟨rfl, Q2, f2⟩
        have f12 := f1.trans (f2.mono (fun _ _ q => q.elim))
        by_cases hz : (G.read ((at0 + k : Nat) : Int)).2 = 0
        · rw [if_pos hz] at hd
          cases r with
          | true =>
            rw [Bool.true_and] at hd
            replace fx := @hz
            (first | refine go ?_ | exact goC | skip); repeat' (first | refine gP ?_ | exact gPc | refine gN ?_ | exact gNc | (refine gI ?_ ?_ <;> intro hyp <;> first | refine goF ?_ | exact goFc | refine goT ?_ | exact goTc | skip))
            exact lp_n ⟨_, by omega, k + 1, _, _, _, _, _, _, _, _, _, _, _, _, _, _, _, _, _, _, _, rfl, by omega, by push_cast; rfl, by rw [hw, hd]; rfl, Q2, f12⟩
          | false =>
            rw [Bool.false_and] at hd
            replace fx := @hz
            (first | refine go ?_ | exact goC | skip); repeat' (first | refine gP ?_ | exact gPc | refine gN ?_ | exact gNc | (refine gI ?_ ?_ <;> intro hyp <;> first | refine goF ?_ | exact goFc | refine goT ?_ | exact goTc | skip))
            exact lp_n ⟨_, by omega, k + 1, _, _, _, _, _, _, _, _, _, _, _, _, _, _, _, _, _, _, _, rfl, by omega, by push_cast; rfl, by rw [hw, hd]; rfl, Q2, f12⟩
        · rw [if_neg hz] at hd
          rw [hw, hd] at e1
          replace fx := @hz
          (first | refine go ?_ | exact goC | skip); repeat' (first | refine gP ?_ | exact gPc | refine gN ?_ | exact gNc | (refine gI ?_ ?_ <;> intro hyp <;> first | refine goF ?_ | exact goFc | refine goT ?_ | exact goTc | skip))
          rw [e1]
          exact ⟨rfl, Q2, f12⟩
      · have e : k = l.length := by omega
        subst e
        rw [List.drop_eq_nil_of_le (by omega)] at hw
        rw [hw] at e1
        replace fx := Dum_eq
        (first | refine go ?_ | exact goC | skip); repeat' (first | refine gP ?_ | exact gPc | refine gN ?_ | exact gNc | (refine gI ?_ ?_ <;> intro hyp <;> first | refine goF ?_ | exact goFc | refine goT ?_ | exact goTc | skip))
        rw [e1]
        exact ⟨rfl, Q1, f1⟩
    · have e1 : writeJ D at0 l = ((E.flush.1, false), E.flush.2) := by
        unfold writeJ; rw [hwd, if_pos rfl, if_neg hz]
      replace fx := @hz
      (first | refine go ?_ | exact goC | skip); repeat' (first | refine gP ?_ | exact gPc | refine gN ?_ | exact gNc | (refine gI ?_ ?_ <;> intro hyp <;> first | refine goF ?_ | exact goFc | refine goT ?_ | exact goTc | skip))
      rw [e1]
      exact ⟨rfl, Q2, f12⟩
def appendJ (J : Jst) (D : Dsk) (t : Bs) : (Int × Int) × (Jst × Dsk) :=
  if J.closed then ((0, 21), (J, D)) else if 8000 < t.length ∨ 4096 < J.next then ((0, 4), (J, D)) else if (D.s.length : Int) - (J.fin : Int) < (count t.length : Int) then ((0, 20), (J, D)) else
  if (writeJ D J.fin (pack J.next t)).1.1 = 0 then
    (if (writeJ D J.fin (pack J.next t)).1.2 then (((J.next : Int), 0), ({ J with recs := J.recs ++ [(J.next, t)], next := J.next + 1, fin := J.fin + count t.length }, (writeJ D J.fin (pack J.next t)).2))
      else ((0, 22), ({ J with next := J.next + 1, fin := J.fin + count t.length }, (writeJ D J.fin (pack J.next t)).2)))
  else ((0, (writeJ D J.fin (pack J.next t)).1.1), ({ J with next := J.next + 1, fin := J.fin + count t.length, closed := true }, (writeJ D J.fin (pack J.next t)).2))
theorem appendJ_go {J : Jst} {D : Dsk} {t : Bs} (hc : J.closed = false) (h2 : ¬ (8000 < t.length ∨ 4096 < J.next)) (h3 : ¬ (D.s.length : Int) - (J.fin : Int) < (count t.length : Int)) : appendJ J D t =
  if (writeJ D J.fin (pack J.next t)).1.1 = 0 then
    (if (writeJ D J.fin (pack J.next t)).1.2 then (((J.next : Int), 0), ({ J with recs := J.recs ++ [(J.next, t)], next := J.next + 1, fin := J.fin + count t.length }, (writeJ D J.fin (pack J.next t)).2))
      else ((0, 22), ({ J with next := J.next + 1, fin := J.fin + count t.length }, (writeJ D J.fin (pack J.next t)).2)))
  else ((0, (writeJ D J.fin (pack J.next t)).1.1), ({ J with next := J.next + 1, fin := J.fin + count t.length, closed := true }, (writeJ D J.fin (pack J.next t)).2)) := by
  unfold appendJ; rw [if_neg (by simp [hc]), if_neg h2, if_neg h3]
structure JOk (J : Jst) (n : Nat) : Prop where
  n1 : 1 ≤ J.next
  n2 : J.next ≤ 4097
  fin : J.fin ≤ n
  recs : J.recs.length ≤ n + J.next
  bad : J.bad.length ≤ n
  nums : ∀ x ∈ J.nums, x ≤ 4096
theorem JOk.nl {J : Jst} {n : Nat} (h : JOk J n) : J.nums.length ≤ n + J.next := by have := h.recs; simpa [Jst.nums] using this
theorem JOk.tl {J : Jst} {n : Nat} (h : JOk J n) : J.texts.length ≤ n + J.next := by have := h.recs; simpa [Jst.texts] using this
theorem appendJ_ok {J : Jst} {D : Dsk} {t : Bs} (h : JOk J D.s.length) : JOk (appendJ J D t).2.1 D.s.length ∧ (appendJ J D t).2.2.s.length = D.s.length := by
  unfold appendJ
  obtain ⟨h1, h2, h3, h4, h5, h6⟩ := h
  split
  · exact ⟨⟨h1, h2, h3, h4, h5, h6⟩, rfl⟩
  · split
    · exact ⟨⟨h1, h2, h3, h4, h5, h6⟩, rfl⟩
    · split
      · exact ⟨⟨h1, h2, h3, h4, h5, h6⟩, rfl⟩
      · rename_i q1 q2 q3
        split
        · split
          · refine ⟨⟨by simp, by simp; omega, by simp; omega, by simp; omega, h5, ?_⟩, writeJ_slen _ _ _⟩
            intro x hx
            simp only [Jst.nums, List.map_append, List.mem_append, List.map_cons, List.map_nil, List.mem_singleton] at hx
            rcases hx with hx | hx
            · exact h6 x hx
            · omega
          · exact ⟨⟨by simp, by simp; omega, by simp; omega, by simp; omega, h5, h6⟩, writeJ_slen _ _ _⟩
        · exact ⟨⟨by simp, by simp; omega, by simp; omega, by simp; omega, h5, h6⟩, writeJ_slen _ _ _⟩
theorem openJ_ok (l : List Bs) : JOk (openJ l) l.length := by
  obtain ⟨q1, q2, q3, q4, q5⟩ := heads_next l l.length
  have key : ∀ (n : Nat) (ps : List (Option Prt)) (R : List (Nat × Bs)), ps.length ≤ n → (∀ o ∈ ps, POk o) → (∀ x ∈ R, x.1 ≤ 4096) → (scanS ps 0 R).length ≤ R.length + ps.length ∧ ∀ x ∈ scanS ps 0 R, x.1 ≤ 4096 := by
    intro n
    induction n with
    | zero =>
      intro ps R hl hp hR
      obtain rfl : ps = [] := List.length_eq_zero_iff.1 (by omega)
      exact ⟨by simp [scanS], hR⟩
    | succ n ih =>
      intro ps R hl hp hR
      by_cases hne : ps = []
      · subst hne; exact ⟨by simp [scanS], hR⟩
      · have hpos : 1 ≤ ps.length := by
          cases ps with
          | nil => exact absurd rfl hne
          | cons a b => simp
        cases hr : record ps with
        | none =>
          rw [scanS_none hne hr]
          obtain ⟨i1, i2⟩ := ih (ps.drop 1) R (by rw [List.length_drop]; omega) (fun o ho => hp o (List.mem_of_mem_drop ho)) hR
          rw [List.length_drop] at i1
          exact ⟨by omega, i2⟩
        | some x =>
          obtain ⟨nm, c, tx⟩ := x
          have hr' : record (ps.drop 0) = some (nm, c, tx) := hr
          obtain ⟨c1, c2, c3, pr, hp1, hp2⟩ := record_facts hp hr'
          rw [scanS_some hr c1]
          have hnm : nm ≤ 4096 := by
            have := hp (nth ps 0) (nth_mem hpos) pr hp1
            omega
          have hA : (addRec R nm tx).length ≤ R.length + 1 ∧ ∀ x ∈ addRec R nm tx, x.1 ≤ 4096 := by
            unfold addRec
            split
            · exact ⟨by omega, hR⟩
            · refine ⟨by simp, fun x hx => ?_⟩
              rcases List.mem_append.1 hx with hx | hx
              · exact hR x hx
              · simp at hx; subst hx; exact hnm
          obtain ⟨i1, i2⟩ := ih (ps.drop c) (addRec R nm tx) (by rw [List.length_drop]; omega) (fun o ho => hp o (List.mem_of_mem_drop ho)) hA.2
          rw [List.length_drop] at i1
          exact ⟨by omega, i2⟩
  obtain ⟨k1, k2⟩ := key _ (l.map unpack) [] (Nat.le_refl _) (fun o ho => by obtain ⟨s, _, rfl⟩ := List.mem_map.1 ho; exact unpack_ok s) (by simp)
  refine ⟨q1, q2, q3, ?_, (heads_bad l l.length).1, ?_⟩
  · show (scanS (l.map unpack) 0 []).length ≤ l.length + (heads l l.length).next
    simp at k1; omega
  · intro x hx
    simp only [Jst.nums, openJ, List.mem_map] at hx
    obtain ⟨y, hy, rfl⟩ := hx
    exact k2 y hy
theorem fr_j (h : Heap) (j : Nat) (o : Option Abs.Obj) : Fr (fun i => i = j) h (h.put j o) := ⟨Nat.le_of_eq (put_next _ _ _).symm, fun i hi hn => get_put_ne hn⟩
theorem appended_c {j : Nat} {t1 t2 t3 : Tok} {J : Jst} (P : PJ h j d t1 t2 t3 J) (Q : PD h d b p w D) (sep : ∀ i, JS j t1 t2 t3 i → ¬ PS d b p w i) (ok : JOk J D.s.length) (t : Bs) (ht : t.length ≤ 1000000) :
    CV F 26 [.ptr j 0, .str t] h (fun v h' => v = .tup [.int .i64 (appendJ J D t).1.1, .int .i64 (appendJ J D t).1.2] ∧ PD h' d b p w (appendJ J D t).2.2 ∧ Fr (fun i => JS j t1 t2 t3 i ∨ PS d b p w i) h h' ∧
      ∃ t1' t3', PJ h' j d t1' t2 t3' (appendJ J D t).2.1 ∧ ∀ i, JS j t1' t2 t3' i → JS j t1 t2 t3 i ∨ h.next ≤ i) := by
  refine CV_wp (fn := c26) rfl ?_
  dsimp only [oT, oN, oV, oG, oW, c26]
  have prow := P.row
  have hl := Q.ok.len
  obtain ⟨k1, k2, k3, k4, k5, k6⟩ := ok
  cases hc : J.closed with
  | true =>
    have e : appendJ J D t = ((0, 21), (J, D)) := by unfold appendJ; rw [if_pos hc]
    rw [hc] at prow
    replace fx := @prow
    (first | refine go ?_ | exact goC | skip); repeat' (first | refine gP ?_ | exact gPc | refine gN ?_ | exact gNc | (refine gI ?_ ?_ <;> intro hyp <;> first | refine goF ?_ | exact goFc | refine goT ?_ | exact goTc | skip))
    rw [e]
    exact ⟨rfl, Q, Fr.refl _ _, t1, t3, P, fun i q => .inl q⟩
  | false =>
    by_cases h2 : 8000 < t.length ∨ 4096 < J.next
    · have e : appendJ J D t = ((0, 4), (J, D)) := by unfold appendJ; rw [if_neg (by simp [hc]), if_pos h2]
      rw [hc] at prow
      replace fx := @prow
      (first | refine go ?_ | exact goC | skip); repeat' (first | refine gP ?_ | exact gPc | refine gN ?_ | exact gNc | (refine gI ?_ ?_ <;> intro hyp <;> first | refine goF ?_ | exact goFc | refine goT ?_ | exact goTc | skip))
      all_goals
        rw [e]
        exact ⟨rfl, Q, Fr.refl _ _, t1, t3, P, fun i q => .inl q⟩
    · have hct := count_v t.length
      have hrm := cv_rw (room_c P Q k3)
      by_cases h3 : (D.s.length : Int) - (J.fin : Int) < (count t.length : Int)
      · have e : appendJ J D t = ((0, 20), (J, D)) := by unfold appendJ; rw [if_neg (by simp [hc]), if_neg h2, if_pos h3]
        rw [hc] at prow
        replace fx := aI @prow (aI @hct @hrm)
        (first | refine go ?_ | exact goC | skip); repeat' (first | refine gP ?_ | exact gPc | refine gN ?_ | exact gNc | (refine gI ?_ ?_ <;> intro hyp <;> first | refine goF ?_ | exact goFc | refine goT ?_ | exact goTc | skip))
        rw [e]
        exact ⟨rfl, Q, Fr.refl _ _, t1, t3, P, fun i q => .inl q⟩
      · have e0 := appendJ_go hc h2 h3
        have hpk := pack_v J.next t (by omega)
        have hpv : packV J.next t = .tup [.sl ((pack J.next t).map AVal.str) .none, .int .i64 0] := by unfold packV; rw [if_neg (by omega), if_neg (by omega), Int.toNat_natCast]
        rw [hpv] at hpk
        have hpl := pack_len J.next t
        rw [hc] at prow
        replace fx := aI @prow (aI @hct (aI @hrm @hpk))
        (first | refine go ?_ | exact goC | skip); repeat' (first | refine gP ?_ | exact gPc | refine gN ?_ | exact gNc | (refine gI ?_ ?_ <;> intro hyp <;> first | refine goF ?_ | exact goFc | refine goT ?_ | exact goTc | skip))
        have hmp : (pack J.next t).map AVal.str = (pack J.next t).map strV := rfl
        obtain ⟨J1, hJ1⟩ : ∃ J1 : Jst, J1 = { J with next := J.next + 1, fin := J.fin + count t.length } := ⟨_, rfl⟩
        have jn1 : J1.next = J.next + 1 := by rw [hJ1]
        have jf1 : J1.fin = J.fin + count t.length := by rw [hJ1]
        have jc1 : J1.closed = false := by rw [hJ1]; exact hc
        have jr1 : J1.recs = J.recs := by rw [hJ1]
        have jb1 : J1.bad = J.bad := by rw [hJ1]
        have jN1 : J1.nums = J.nums := by rw [Jst.nums, jr1]; rfl
        have jT1 : J1.texts = J.texts := by rw [Jst.texts, jr1]; rfl
        obtain ⟨g1, g2, g3, gne⟩ := P.tk
        obtain ⟨hA, hhA⟩ : ∃ hA, hA = (h.put j (some (.row true 0 true [.ptr d 0, .sl (J.nums.map intN) t1, .sl (J.bad.map intN) t2, .sl (J.texts.map strV) t3, .int .i64 ((J.next : Int) + 1), .int .i64 (J.fin : Int), .bool false]))).put j (some (.row true 0 true [.ptr d 0, .sl (J.nums.map intN) t1, .sl (J.bad.map intN) t2, .sl (J.texts.map strV) t3, .int .i64 ((J.next : Int) + 1), .int .i64 ((J.fin : Int) + ((pack J.next t).length : Int)), .bool false])) := ⟨_, rfl⟩
        have fA : Fr (fun i => i = j) h hA := by rw [hhA]; exact (fr_j _ _ _).trans (fr_j _ _ _)
        have rowA : hA.get j = some (.row true 0 true [.ptr d 0, .sl (J1.nums.map intN) t1, .sl (J1.bad.map intN) t2, .sl (J1.texts.map strV) t3, .int .i64 (J1.next : Int), .int .i64 (J1.fin : Int), .bool J1.closed]) := by
          rw [hhA, get_put_old (get_put_old prow), jn1, jf1, jc1, jb1, jN1, jT1, hpl, Int.natCast_add, Int.natCast_add]; rfl
        have ntj : ∀ i, TS t1 t2 t3 i → i ≠ j := by
          rintro i (⟨s, e⟩ | ⟨s, e⟩ | ⟨s, e⟩) rfl
          · exact g1.ne prow (by simp) _ _ e rfl
          · exact g2.ne prow (by simp) _ _ e rfl
          · exact g3.ne prow (by simp) _ _ e rfl
        have TA : JT hA t1 t2 t3 J1 := by
          have := P.tk.fr fA (fun i q e => ntj i q e)
          exact ⟨by rw [jN1]; exact this.g1, by rw [jb1]; exact this.g2, by rw [jT1]; exact this.g3, gne⟩
        have PA : PJ hA j d t1 t2 t3 J1 := ⟨rowA, TA⟩
        have QA := Q.fr fA (fun i hi e => sep i (.inl e) hi)
        rw [hmp, ← hhA]
        refine CV_mono (jwrite_c PA QA (sep j (.inl rfl)) J.fin (by omega) (pack J.next t) (by rw [hpl]; have := count_le t.length; omega) ?_) ?_
        · intro s hs
          simp only [pack, List.mem_map] at hs
          obtain ⟨k, _, rfl⟩ := hs
          rw [sector_len]; omega
        rintro v h2 ⟨rfl, Q2, f2⟩
        obtain ⟨W, hW⟩ : ∃ W, W = writeJ D J.fin (pack J.next t) := ⟨_, rfl⟩
        rw [← hJ1, ← hW] at e0
        rw [← hW] at Q2 ⊢
        have P2 := PA.fr f2 sep
        obtain ⟨row2, T2⟩ := P2
        have F2 : Fr (fun i => JS j t1 t2 t3 i ∨ PS d b p w i) h h2 := (fA.mono (fun i _ e => .inl (.inl e))).trans (f2.mono (fun i _ e => .inr e))
        have lj2 := get_lt row2
        have nA : hA.next = h.next := by rw [hhA, put_next, put_next]
        by_cases hz : W.1.1 = 0
        · rw [if_pos hz] at e0
          cases hw2 : W.1.2 with
          | true =>
            rw [if_pos hw2] at e0
            obtain ⟨J2, hJ2⟩ : ∃ J2 : Jst, J2 = { J with recs := J.recs ++ [(J.next, t)], next := J.next + 1, fin := J.fin + count t.length } := ⟨_, rfl⟩
            rw [← hJ2] at e0
            have jN2 : J2.nums = J1.nums ++ [J.next] := by rw [jN1, hJ2]; simp [Jst.nums]
            have jT2 : J2.texts = J1.texts ++ [t] := by rw [jT1, hJ2]; simp [Jst.texts]
            have jb2 : J2.bad = J1.bad := by rw [hJ2, jb1]
            have jo2 : J2.next = J1.next ∧ J2.fin = J1.fin ∧ J2.closed = J1.closed := by rw [hJ2, hJ1]; exact ⟨rfl, rfl, rfl⟩
            obtain ⟨b1, b2, b3, bne⟩ := T2
            have lb : ∀ H, litA 0 3 1 1 false [.int .i64 0] (some [.int .i64 (J.next : Int)]) H = some (.sl [intN J.next] .none, H) := fun H => lit_none rfl rfl rfl rfl
            have ls : ∀ H, litA 0 9 1 1 false [.str []] (some [.str t]) H = some (.sl [strV t] .none, H) := fun H => lit_none rfl rfl rfl rfl
            have ln : J1.nums.length ≤ 10000 := by rw [jN1]; simp only [Jst.nums, List.length_map]; omega
            have lt : J1.texts.length ≤ 10000 := by rw [jT1]; simp only [Jst.texts, List.length_map]; omega
            obtain ⟨h3, e2, n2, m2, o2⟩ := append_N (bytes := 8) (ag := false) (f := intN) (y := .sl ([J.next].map intN) .none) (ys := [J.next]) intN_len (fun _ => rfl) (fun _ => rfl) lenA_sl (elems_sl intN_len) b1 (by simp; omega) (by omega) (by omega) (by omega) (by simp)
            simp only [List.map_cons, List.map_nil] at e2
            have row3 := (o2 j lj2 (b1.ne row2 (by simp))).trans row2
            have b3' : GrN h3 9 1 J1.texts t3 := b3.keep fun i hg _ => (o2 i (get_lt hg) (b1.ne hg (by simp))).trans hg
            obtain ⟨h4, e3, n3, m3, o3⟩ := append_N (bytes := 16) (ag := false) (f := strV) (y := .sl ([t].map strV) .none) (ys := [t]) strV_len (fun _ => rfl) (fun _ => rfl) lenA_sl (elems_sl strV_len) b3' (by simp; omega) (by omega) (by omega) (by omega) (by simp)
            simp only [List.map_cons, List.map_nil] at e3
            have row4 := (o3 j (by omega) (b3'.ne row3 (by simp))).trans row3
            have pp : ∀ x y, ((h4.put j (some x)).put j y).get j = y := fun x y => get_put_old (get_put_old row4)
            have kk : h4.get h2.next = some (.tok 3) := (o3 _ (by omega) (b3'.ne m2 (by simp))).trans m2
            have hgo : ∀ (x y : Option Abs.Obj) i, i < h2.next → ¬ (i = j ∨ (∃ s, t1 = .own i s) ∨ ∃ s, t3 = .own i s) → ((h4.put j x).put j y).get i = h2.get i := fun x y i q1 q2 => by
              have q3 : i ≠ j := fun e => q2 (.inl e)
              rw [get_put_ne q3, get_put_ne q3, o3 i (by omega) (fun i' s' e => by rintro rfl; exact q2 (.inr (.inr ⟨_, e⟩))), o2 i q1 (fun i' s' e => by rintro rfl; exact q2 (.inr (.inl ⟨_, e⟩)))]
            have hn2 := F2.1
            replace fx := aI @hz (aI @hw2 (aI @row2 (aI @lb (aI @ls (aI @e2 (aI @row3 (aI @e3 (aI @row4 @pp))))))))
            (first | refine go ?_ | exact goC | skip); repeat' (first | refine gP ?_ | exact gPc | refine gN ?_ | exact gNc | (refine gI ?_ ?_ <;> intro hyp <;> first | refine goF ?_ | exact goFc | refine goT ?_ | exact goTc | skip))
            rw [e0]
            have FF : ∀ (x y : Option Abs.Obj), Fr (JS j t1 t2 t3) h2 ((h4.put j x).put j y) := fun x y => ⟨by rw [put_next, put_next]; omega, fun i q1 q2 => hgo x y i q1 (by
              rintro (e | e | e)
              · exact q2 (.inl e)
              · exact q2 (.inr (.inl e))
              · exact q2 (.inr (.inr (.inr e))))⟩
            refine ⟨rfl, Q2.fr (FF _ _) (fun i hi e => sep i e hi), F2.trans ((FF _ _).mono (fun i _ e => .inl e)), .own h2.next 1, .own h3.next 1, ⟨?_, ?_, ?_, ?_, ?_⟩, ?_⟩
            · show _ = some (Obj.row true 0 true [.ptr d 0, .sl (J2.nums.map intN) (.own h2.next 1), .sl (J2.bad.map intN) t2, .sl (J2.texts.map strV) (.own h3.next 1), .int .i64 (J2.next : Int), .int .i64 (J2.fin : Int), .bool J2.closed])
              rw [jN2, jT2, jb2, jo2.1, jo2.2.1, jo2.2.2]
              exact pp _ _
            · exact .inr ⟨_, rfl, by rw [get_put_ne (by omega), get_put_ne (by omega)]; exact kk⟩
            · show GrN _ _ _ J2.bad t2
              rw [jb2]
              refine b2.keep fun i hg ⟨s, e⟩ => (hgo _ _ i (get_lt hg) ?_).trans hg
              rintro (rfl | ⟨s', e'⟩ | ⟨s', e'⟩)
              · rw [row2] at hg; simp at hg
              · exact bne _ _ _ e' e
              · exact b3.ne hg (by simp) _ _ e' rfl
            · exact .inr ⟨_, rfl, by rw [get_put_ne (by omega), get_put_ne (by omega)]; exact m3⟩
            · intro i s s' e e'
              simp only [Tok.own.injEq] at e
              have := b2.lt e'
              omega
            · rintro i (rfl | ⟨s, e⟩ | ⟨s, e⟩ | ⟨s, e⟩)
              · exact .inl (.inl rfl)
              · simp only [Tok.own.injEq] at e; right; omega
              · exact .inl (.inr (.inr (.inl ⟨s, e⟩)))
              · simp only [Tok.own.injEq] at e; right; omega
          | false =>
            rw [if_neg (by simp [hw2])] at e0
            replace fx := aI @hz @hw2
            (first | refine go ?_ | exact goC | skip); repeat' (first | refine gP ?_ | exact gPc | refine gN ?_ | exact gNc | (refine gI ?_ ?_ <;> intro hyp <;> first | refine goF ?_ | exact goFc | refine goT ?_ | exact goTc | skip))
            rw [e0]
            exact ⟨rfl, Q2, F2, t1, t3, ⟨row2, T2⟩, fun i q => .inl q⟩
        · rw [if_neg hz] at e0
          obtain ⟨J2, hJ2⟩ : ∃ J2 : Jst, J2 = { J with next := J.next + 1, fin := J.fin + count t.length, closed := true } := ⟨_, rfl⟩
          rw [← hJ2] at e0
          have jN2 : J2.nums = J1.nums := by rw [jN1, hJ2]; rfl
          have jT2 : J2.texts = J1.texts := by rw [jT1, hJ2]; rfl
          have jb2 : J2.bad = J1.bad := by rw [hJ2, jb1]
          have jo2 : J2.next = J1.next ∧ J2.fin = J1.fin ∧ J2.closed = true := by rw [hJ2, hJ1]; exact ⟨rfl, rfl, rfl⟩
          replace fx := aI @hz @row2
          (first | refine go ?_ | exact goC | skip); repeat' (first | refine gP ?_ | exact gPc | refine gN ?_ | exact gNc | (refine gI ?_ ?_ <;> intro hyp <;> first | refine goF ?_ | exact goFc | refine goT ?_ | exact goTc | skip))
          rw [e0]
          refine ⟨rfl, Q2.fr (fr_j _ _ _) (fun i hi e => sep i (.inl e) hi), F2.trans ?_, t1, t3, ⟨?_, ?_⟩, fun i q => .inl q⟩
          · exact (fr_j _ _ _).mono (fun i _ e => .inl (.inl e))
          · show _ = some (Obj.row true 0 true [.ptr d 0, .sl (J2.nums.map intN) t1, .sl (J2.bad.map intN) t2, .sl (J2.texts.map strV) t3, .int .i64 (J2.next : Int), .int .i64 (J2.fin : Int), .bool J2.closed])
            rw [jN2, jT2, jb2, jo2.1, jo2.2.1, jo2.2.2]
            exact get_put_old row2
          · have := T2.fr (fr_j h2 j (some (.row true 0 true [.ptr d 0, .sl (J1.nums.map intN) t1, .sl (J1.bad.map intN) t2, .sl (J1.texts.map strV) t3, .int .i64 (J1.next : Int), .int .i64 (J1.fin : Int), .bool true]))) (fun i q e => ntj i q e)
            show JT _ t1 t2 t3 J2
            exact ⟨by rw [jN2]; exact this.g1, by rw [jb2]; exact this.g2, by rw [jT2]; exact this.g3, this.ne⟩
end Go.Proofs.YtjofjgflcogklaaGreatDoor

namespace Go.Proofs.YtjofjgflcogklaaGreatDoor
open Go Go.Abs Go.Sha Go.Jn
def zero64 : Bs := List.replicate 64 0
theorem unpack_zero : unpack zero64 = none := by
  refine unpack_none fun h => ?_
  obtain ⟨_, _, h3, _⟩ := (good_iff _).1 h
  have : (fld zero64).number = 0 := by rfl
  omega
theorem flat_chunks (t : Bs) : ∀ (C : Nat), t.length ≤ 48 * C → (List.range C).flatMap (fun k => (t.drop (48 * k)).take 48) = t := by
  have key : ∀ C, (List.range C).flatMap (fun k => (t.drop (48 * k)).take 48) = t.take (48 * C) := by
    intro C
    induction C with
    | zero => simp
    | succ C ih =>
      rw [List.range_succ, List.flatMap_append, ih]
      simp only [List.flatMap_cons, List.flatMap_nil, List.append_nil]
      rw [show 48 * (C + 1) = 48 * C + 48 by omega, List.take_add]
  intro C h
  rw [key, List.take_of_length_le h]
structure Seg where
  n : Nat
  t : Bs
  l : List Bs
def Seg.whole (g : Seg) : Prop := g.l = pack g.n g.t
structure Seg.ok (g : Seg) : Prop where
  n1 : 1 ≤ g.n
  n2 : g.n ≤ 4096
  t : g.t.length ≤ 8000
  len : g.l.length = count g.t.length
  each : ∀ k, k < count g.t.length → nth g.l k = sector g.n g.t k ∨ unpack (nth g.l k) = none
theorem nth_pack (n : Nat) (t : Bs) {k : Nat} (hk : k < count t.length) : nth (pack n t) k = sector n t k := by
  rw [nth_eq (by rw [pack_len]; exact hk)]; simp [pack]
theorem record_pack (n : Nat) (t : Bs) (h1 : 1 ≤ n) (h2 : n ≤ 4096) (ht : t.length ≤ 8000) (rest : List (Option Prt)) : record ((pack n t).map unpack ++ rest) = some (n, count t.length, t) := by
  have hc1 := count_pos t.length ht
  obtain ⟨C, hC⟩ : ∃ C, C = count t.length := ⟨_, rfl⟩
  have hg : ∀ k, k < C → ((pack n t).map unpack ++ rest)[k]? = some (some ⟨n, k, t.length - 48 * k, (t.drop (48 * k)).take 48⟩) := by
    intro k hk
    rw [List.getElem?_append_left (by rw [List.length_map, pack_len]; omega), List.getElem?_map]
    have : (pack n t)[k]? = some (sector n t k) := by simp [pack, ← hC, hk]
    rw [this, Option.map_some, good_sector n t k h1 h2 ht (by omega)]
  have h0 := hg 0 (by omega)
  obtain ⟨L, hL⟩ : ∃ L, L = (pack n t).map unpack ++ rest := ⟨_, rfl⟩
  have hLl : C ≤ L.length := by rw [hL, List.length_append, List.length_map, pack_len]; omega
  rw [← hL] at hg h0 ⊢
  cases L with
  | nil => simp at h0
  | cons p L' =>
    simp only [List.getElem?_cons_zero, Option.some.injEq] at h0
    subst h0
    have htx : textOf (some ⟨n, 0, t.length - 48 * 0, (t.drop (48 * 0)).take 48⟩ :: L') C = t := by
      have e : (some (⟨n, 0, t.length - 48 * 0, (t.drop (48 * 0)).take 48⟩ : Prt) :: L').take C = (List.range C).map (fun k => some (⟨n, k, t.length - 48 * k, (t.drop (48 * k)).take 48⟩ : Prt)) := by
        refine List.ext_getElem? fun k => ?_
        by_cases hk : k < C
        · rw [List.getElem?_take_of_lt hk, hg k hk]; simp [hk]
        · rw [List.getElem?_eq_none (by rw [List.length_take]; omega), List.getElem?_eq_none (by simp; omega)]
      rw [textOf, e, List.flatMap_map]
      have := flat_chunks t C (by rw [hC]; exact count_end t.length ht)
      exact this
    have hall : (List.range C).all (chainOk (some ⟨n, 0, t.length - 48 * 0, (t.drop (48 * 0)).take 48⟩ :: L') ⟨n, 0, t.length - 48 * 0, (t.drop (48 * 0)).take 48⟩) = true := by
      rw [List.all_eq_true]
      intro k hk
      rw [List.mem_range] at hk
      have hcl := count_lt t.length ht (by rw [← hC]; exact hk)
      rw [chainOk, hg k hk]
      simp only [decide_eq_true_eq]
      exact ⟨trivial, trivial, by omega⟩
    simp only [record, Nat.mul_zero, Nat.sub_zero, decide_true, Bool.true_and]
    simp only [Nat.mul_zero, Nat.sub_zero] at hall htx
    subst hC
    rw [if_pos, htx]
    rw [hall, Bool.and_true]
    exact decide_eq_true hLl
theorem scan_whole {n : Nat} {t : Bs} (h1 : 1 ≤ n) (h2 : n ≤ 4096) (ht : t.length ≤ 8000) (rest : List (Option Prt)) (R : List (Nat × Bs)) : scanS ((pack n t).map unpack ++ rest) 0 R = scanS rest 0 (addRec R n t) := by
  rw [scanS_some (record_pack n t h1 h2 ht rest) (count_pos _ ht)]
  congr 1
  rw [List.drop_left' (by rw [List.length_map, pack_len])]
theorem scan_broken {g : Seg} (ok : g.ok) (hb : ∃ k, k < count g.t.length ∧ unpack (nth g.l k) = none) (rest : List (Option Prt)) (R : List (Nat × Bs)) : scanS (g.l.map unpack ++ rest) 0 R = scanS rest 0 R := by
  obtain ⟨o1, o2, ot, ol, oe⟩ := ok
  have key : ∀ (m i : Nat), m = g.l.length - i → i ≤ g.l.length → scanS ((g.l.drop i).map unpack ++ rest) 0 R = scanS rest 0 R := by
    intro m
    induction m with
    | zero =>
      intro i hm hi
      rw [List.drop_eq_nil_of_le (by omega)]; rfl
    | succ m ih =>
      intro i hm hi
      have hil : i < g.l.length := by omega
      have hgi : g.l[i] = nth g.l i := (nth_eq hil).symm
      have hne : (g.l.drop i).map unpack ++ rest ≠ [] := fun e => by
        have := congrArg List.length e
        simp at this; omega
      have hnone : record ((g.l.drop i).map unpack ++ rest) = none := by
        rw [List.drop_eq_getElem_cons hil, hgi, List.map_cons, List.cons_append]
        rcases oe i (by omega) with e | e
        · rw [e, good_sector g.n g.t i o1 o2 ot (by omega)]
          by_cases hi0 : i = 0
          · subst hi0
            obtain ⟨k, hk, hz⟩ := hb
            have hne0 : k ≠ 0 := by
              rintro rfl
              rw [e] at hz
              have := good_sector g.n g.t 0 o1 o2 ot (by omega)
              rw [hz] at this
              simp at this
            simp only [record]
            rw [if_neg]
            simp only [Bool.and_eq_true, decide_eq_true_eq, List.all_eq_true, List.mem_range]
            rintro ⟨_, _, hall⟩
            have := hall k (by simpa using hk)
            rw [chainOk] at this
            obtain ⟨k', rfl⟩ : ∃ k', k = k' + 1 := ⟨k - 1, by omega⟩
            rw [List.getElem?_cons_succ, List.getElem?_append_left (by rw [List.length_map, List.length_drop]; omega), List.getElem?_map, List.getElem?_drop, List.getElem?_eq_getElem (by omega)] at this
            have hz' : unpack g.l[0 + 1 + k'] = none := by
              have e' : g.l[0 + 1 + k'] = nth g.l (k' + 1) := by rw [nth_eq (by omega)]; congr 1; omega
              rw [e']; exact hz
            rw [Option.map_some, hz'] at this
            simp at this
          · simp only [record]
            rw [if_neg]
            simp [hi0]
        · rw [e]; rfl
      rw [scanS_none hne hnone]
      rw [List.drop_eq_getElem_cons hil, List.map_cons, List.cons_append, List.drop_succ_cons, List.drop_zero]
      exact ih (i + 1) (by omega) (by omega)
  exact key _ 0 rfl (Nat.zero_le _)
theorem scan_blank (m : Nat) (R : List (Nat × Bs)) : scanS ((List.replicate m zero64).map unpack) 0 R = R := by
  induction m with
  | zero => rfl
  | succ m ih =>
    rw [List.replicate_succ, List.map_cons, unpack_zero, scanS_none (by simp) rfl, List.drop_succ_cons, List.drop_zero]
    exact ih
structure GInv (S : List (Seg × Bool)) (J : Jst) (D : Dsk) : Prop where
  off : D.off = false
  left : D.left = none
  nx : ∀ x ∈ D.s, x.next = none
  con : conts D = S.flatMap (·.1.l) ++ List.replicate (D.s.length - J.fin) zero64
  fin : (S.flatMap (·.1.l)).length = J.fin
  le : J.fin ≤ D.s.length
  ok : ∀ g ∈ S, g.1.ok
  yes : ∀ g ∈ S, g.2 = true → g.1.l = pack g.1.n g.1.t
  no : ∀ g ∈ S, g.2 = false → ∃ k, k < count g.1.t.length ∧ unpack (nth g.1.l k) = none
  recs : J.recs = (S.filter (·.2)).map fun g => (g.1.n, g.1.t)
  lt : ∀ g ∈ S, g.1.n < J.next
  inc : S.Pairwise fun a b => a.1.n < b.1.n
  n1 : 1 ≤ J.next
  n2 : J.next ≤ 4097
  closed : J.closed = false
theorem scan_segs : ∀ (S : List (Seg × Bool)) (R : List (Nat × Bs)) (m : Nat), (∀ g ∈ S, g.1.ok) → (∀ g ∈ S, g.2 = true → g.1.l = pack g.1.n g.1.t) → (∀ g ∈ S, g.2 = false → ∃ k, k < count g.1.t.length ∧ unpack (nth g.1.l k) = none) →
    S.Pairwise (fun a b => a.1.n < b.1.n) → (∀ x ∈ R, ∀ g ∈ S, x.1 < g.1.n) →
    scanS ((S.flatMap (·.1.l) ++ List.replicate m zero64).map unpack) 0 R = R ++ (S.filter (·.2)).map fun g => (g.1.n, g.1.t)
  | [], R, m, _, _, _, _, _ => by
    have := scan_blank m R
    simpa using this
  | g :: S, R, m, h1, h2, h3, h4, h5 => by
    rw [List.pairwise_cons] at h4
    rw [List.flatMap_cons, List.append_assoc, List.map_append]
    cases hg : g.2 with
    | true =>
      have ok := h1 g (by simp)
      rw [h2 g (by simp) hg, scan_whole ok.n1 ok.n2 ok.t]
      have hnot : g.1.n ∉ R.map (·.1) := fun hm => by
        obtain ⟨x, hx, e⟩ := List.mem_map.1 hm
        have := h5 x hx g (by simp)
        omega
      rw [addRec, if_neg hnot, scan_segs S _ m (fun g hg => h1 g (by simp [hg])) (fun g hg => h2 g (by simp [hg])) (fun g hg => h3 g (by simp [hg])) h4.2 (fun x hx g' hg' => by
        rcases List.mem_append.1 hx with hx | hx
        · exact h5 x hx g' (by simp [hg'])
        · simp at hx; subst hx; exact h4.1 g' hg')]
      rw [List.filter_cons_of_pos (by simp [hg])]
      simp
    | false =>
      rw [scan_broken (h1 g (by simp)) (h3 g (by simp) hg), scan_segs S R m (fun g hg => h1 g (by simp [hg])) (fun g hg => h2 g (by simp [hg])) (fun g hg => h3 g (by simp [hg])) h4.2 (fun x hx g' hg' => h5 x hx g' (by simp [hg']))]
      rw [List.filter_cons_of_neg (by simp [hg])]
theorem GInv.found {S : List (Seg × Bool)} {J : Jst} {D : Dsk} (h : GInv S J D) : (openJ (conts D)).recs = J.recs := by
  show scanS ((conts D).map unpack) 0 [] = J.recs
  rw [h.con, scan_segs S [] _ h.ok h.yes h.no h.inc (by simp), h.recs]; simp
def putNext (l : List Sec) (a : Nat) : List Bs → List Sec
  | [] => l
  | s :: ss => putNext (l.set a { nth l a with next := if h : s.length = 64 then some ⟨s, h⟩ else none }) (a + 1) ss
theorem wrAll_ok : ∀ (ss : List Bs) (D : Dsk) (a : Nat), D.off = false → D.left = none → a + ss.length ≤ D.s.length → (∀ s ∈ ss, s.length = 64) →
    wrAll D a ss = (0, { D with s := putNext D.s a ss })
  | [], D, a, _, _, _, _ => rfl
  | s :: ss, D, a, h1, h2, h3, h4 => by
    have h64 := h4 s (by simp)
    simp only [List.length_cons] at h3
    have hw : D.write (a : Int) s = (0, { D with s := D.s.set a { nth D.s a with next := some ⟨s, h64⟩ } }) := by
      unfold Dsk.write
      rw [h1, h2, if_neg (by simp), if_neg (by omega), dif_pos h64, if_neg (by simp)]
      simp only [Int.toNat_natCast, stepL, Option.map_none]
    rw [wrAll, hw, if_pos rfl]
    refine (wrAll_ok ss { D with s := D.s.set a { nth D.s a with next := some (⟨s, h64⟩ : B64) } } (a + 1) h1 h2 (by simp; omega) (fun s hs => h4 s (by simp [hs]))).trans ?_
    rw [putNext, dif_pos h64]
theorem putNext_len (ss : List Bs) : ∀ (l : List Sec) (a : Nat), (putNext l a ss).length = l.length := by
  induction ss with
  | nil => intro l a; rfl
  | cons s ss ih => intro l a; rw [putNext, ih, List.length_set]
theorem putNext_nth (ss : List Bs) : ∀ (l : List Sec) (a i : Nat), a + ss.length ≤ l.length → i < l.length → (∀ s ∈ ss, s.length = 64) →
    nth (putNext l a ss) i = if h : a ≤ i ∧ i < a + ss.length ∧ (nth ss (i - a)).length = 64 then { nth l i with next := some ⟨nth ss (i - a), h.2.2⟩ } else nth l i := by
  induction ss with
  | nil =>
    intro l a i _ _ _
    rw [dif_neg (by simp; omega)]; rfl
  | cons s ss ih =>
    intro l a i h1 h2 h3
    simp only [List.length_cons] at h1
    have h64 := h3 s (by simp)
    rw [putNext, dif_pos h64, ih _ (a + 1) i (by rw [List.length_set]; omega) (by rw [List.length_set]; exact h2) (fun s hs => h3 s (by simp [hs])), nth_set _ (by omega)]
    by_cases e : i = a
    · subst e
      rw [if_pos rfl, dif_neg (by omega), dif_pos ⟨Nat.le_refl _, by simp, by rw [Nat.sub_self]; exact h64⟩]
      simp [Nat.sub_self, nth]
    · rw [if_neg e]
      by_cases hi : a + 1 ≤ i ∧ i < a + 1 + ss.length
      · have en : nth (s :: ss) (i - a) = nth ss (i - (a + 1)) := by
          rw [show i - a = (i - (a + 1)) + 1 by omega]; simp [nth]
        have hl : (nth ss (i - (a + 1))).length = 64 := h3 _ (by simp [nth_mem (l := ss) (i := i - (a + 1)) (by omega)])
        rw [dif_pos ⟨hi.1, hi.2, hl⟩, dif_pos ⟨by omega, by simp; omega, by rw [en]; exact hl⟩]
        simp only [en]
      · rw [dif_neg (fun q => hi ⟨q.1, q.2.1⟩), dif_neg (fun q => by simp only [List.length_cons] at q; omega)]
theorem mix64 (b t : B64) : (mix b t (clampP 64) (clampP_le 64)) = b := by
  apply Subtype.ext
  have h1 := b.2
  have h2 := t.2
  have e : clampP 64 = 64 := rfl
  show b.1.take (clampP 64) ++ t.1.drop (clampP 64) = b.1
  rw [e, List.take_of_length_le (by omega), List.drop_eq_nil_of_le (by omega), List.append_nil]
theorem mountS64_len (l : List Sec) (k : Nat) : (mountS (fun _ => 64) l k).length = l.length := mountS_len _ _ _
theorem mountS64_nth : ∀ (l : List Sec) (k i : Nat), i < l.length → (nth l i).next = none ∨ (∃ v, (nth l i).next = some v) → nth (mountS (fun _ => 64) l k) i =
    match (nth l i).next with | none => nth l i | some v => ⟨if (nth l i).worn then (nth l i).text else v, none, (nth l i).worn⟩
  | [], _, _, h, _ => by simp at h
  | x :: l, k, 0, _, _ => by
    have hx : nth (x :: l) 0 = x := rfl
    simp only [mountS, hx]
    cases hn : x.next with
    | none => rfl
    | some v =>
      show settle x 64 = _
      simp only [settle, hn, mix64]
  | x :: l, k, i + 1, h, q => by
    have hx : nth (x :: l) (i + 1) = nth l i := rfl
    rw [hx] at q ⊢
    simp only [mountS]
    cases hn : x.next with
    | none => exact mountS64_nth l k i (by simpa using h) q
    | some v => exact mountS64_nth l (k + 1) i (by simpa using h) q
theorem put_flush {D : Dsk} {ss : List Bs} {a : Nat} (ho : D.off = false) (hl : D.left = none) (hn : ∀ x ∈ D.s, x.next = none) (ha : a + ss.length ≤ D.s.length) (h64 : ∀ s ∈ ss, s.length = 64) :
    ∃ E : Dsk, (wrAll D a ss) = (0, { D with s := putNext D.s a ss }) ∧ (wrAll D a ss).2.flush = (0, E) ∧ E.off = false ∧ E.left = none ∧ (∀ x ∈ E.s, x.next = none) ∧ E.s.length = D.s.length ∧
      (∀ i, i < D.s.length → nth (conts E) i = if a ≤ i ∧ i < a + ss.length ∧ (nth D.s i).worn = false then nth ss (i - a) else nth (conts D) i) ∧ (∀ i, i < D.s.length → (nth E.s i).worn = (nth D.s i).worn) := by
  have e1 := wrAll_ok ss D a ho hl ha h64
  have e2 : ({ D with s := putNext D.s a ss } : Dsk).flush = (0, { D with s := mountS (fun _ => 64) (putNext D.s a ss) 0 }) := by
    unfold Dsk.flush
    rw [ho, hl, if_neg (by simp), if_neg (by simp)]
    simp [stepL]
  have hnn : ∀ i, i < D.s.length → (nth D.s i).next = none := fun i hi => hn _ (nth_mem hi)
  have key : ∀ i, i < D.s.length → nth (mountS (fun _ => 64) (putNext D.s a ss) 0) i = if h : a ≤ i ∧ i < a + ss.length ∧ (nth ss (i - a)).length = 64 then ⟨if (nth D.s i).worn then (nth D.s i).text else ⟨nth ss (i - a), h.2.2⟩, none, (nth D.s i).worn⟩ else nth D.s i := by
    intro i hi
    have hp := putNext_nth ss D.s a i ha hi h64
    rw [mountS64_nth _ 0 i (by rw [putNext_len]; exact hi) (by cases (nth (putNext D.s a ss) i).next with | none => exact .inl rfl | some v => exact .inr ⟨v, rfl⟩), hp]
    by_cases q : a ≤ i ∧ i < a + ss.length ∧ (nth ss (i - a)).length = 64
    · rw [dif_pos q, dif_pos q]
    · rw [dif_neg q, dif_neg q, hnn i hi]
  refine ⟨{ D with s := mountS (fun _ => 64) (putNext D.s a ss) 0 }, e1, by rw [e1]; exact e2, ho, hl, ?_, by rw [mountS64_len, putNext_len], ?_, ?_⟩
  · intro x hx
    obtain ⟨i, hi, rfl⟩ := List.mem_iff_getElem.1 hx
    have hi' : i < D.s.length := by simpa [mountS_len, putNext_len] using hi
    rw [← nth_eq hi, key i hi']
    split
    · rfl
    · exact hnn i hi'
  · intro i hi
    rw [nth_conts _ (by rw [mountS64_len, putNext_len]; exact hi), nth_conts _ hi]
    dsimp only
    rw [key i hi, hnn i hi]
    by_cases q : a ≤ i ∧ i < a + ss.length
    · have hl : (nth ss (i - a)).length = 64 := h64 _ (nth_mem (by omega))
      rw [dif_pos ⟨q.1, q.2, hl⟩]
      by_cases w : (nth D.s i).worn = true
      · rw [if_neg (by rw [w]; simp)]
        simp only [Option.getD_none]
        rw [w]; rfl
      · rw [Bool.not_eq_true] at w
        rw [if_pos ⟨q.1, q.2, w⟩]
        simp only [Option.getD_none]
        rw [w]; rfl
    · rw [dif_neg (fun z => q ⟨z.1, z.2.1⟩), if_neg (fun z => q ⟨z.1, z.2.1⟩), hnn i hi]
  · intro i hi
    dsimp only
    rw [key i hi]
    split <;> rfl
theorem rdAll_ok (E : Dsk) (ho : E.off = false) : ∀ (ss : List Bs) (a : Nat) (r : Bool), a + ss.length ≤ E.s.length → rdAll E a ss r = (0, r && decide (∀ k, k < ss.length → nth ss k = nth (conts E) (a + k)))
  | [], a, r, _ => by simp [rdAll]
  | s :: ss, a, r, h => by
    simp only [List.length_cons] at h
    rw [rdAll, read_conts E ho (by omega), if_pos rfl, rdAll_ok E ho ss (a + 1) _ (by omega), Bool.and_assoc]
    congr 2
    rw [← Bool.decide_and]
    apply decide_eq_decide.2
    constructor
    · rintro ⟨q1, q2⟩ k hk
      cases k with
      | zero => exact q1
      | succ k =>
        have := q2 k (by simpa using hk)
        rw [show a + (k + 1) = a + 1 + k by omega, ← this]; rfl
    · intro q
      refine ⟨q 0 (by simp), fun k hk => ?_⟩
      have := q (k + 1) (by simpa using hk)
      rw [show a + 1 + k = a + (k + 1) by omega, ← this]; rfl
theorem ext_nth {α : Type} [Inhabited α] {l l' : List α} (hl : l.length = l'.length) (h : ∀ i, i < l.length → nth l i = nth l' i) : l = l' := by
  refine List.ext_getElem hl fun i h1 h2 => ?_
  have := h i h1
  rwa [nth_eq h1, nth_eq h2] at this
theorem GInv.step1 {S : List (Seg × Bool)} {J : Jst} {D : Dsk} (g : GInv S J D) (t : Bs) (C : Int) (J' : Jst) (D' : Dsk) (n : Int) (he : appendJ J D t = ((n, C), (J', D'))) :
    ∃ S', GInv S' J' D' ∧ D'.s.length = D.s.length ∧ (∀ i, i < D.s.length → (nth D'.s i).worn = (nth D.s i).worn) ∧ ((∀ i, i < D.s.length → (nth D.s i).worn = false) → C ≠ 22) ∧ (C = 0 → ∃ l, S' = S ++ [(⟨J.next, t, l⟩, true)]) ∧ ((C = 4 ∨ C = 20) → S' = S ∧ J' = J ∧ D' = D) ∧ ((C = 0 ∧ n = (J.next : Int) ∧ J'.recs = J.recs ++ [(J.next, t)] ∧ J'.next = J.next + 1) ∨ (n = 0 ∧ (C = 4 ∨ C = 20 ∨ C = 22) ∧ J'.recs = J.recs ∧ J.next ≤ J'.next)) := by
  have h1 := g.closed
  by_cases h2 : 8000 < t.length ∨ 4096 < J.next
  · rw [appendJ, if_neg (by simp [h1]), if_pos h2] at he
    cases he
    exact ⟨S, g, rfl, fun _ _ => rfl, by simp, by simp, fun _ => ⟨rfl, rfl, rfl⟩, .inr ⟨rfl, .inl rfl, rfl, Nat.le_refl _⟩⟩
  · by_cases h3 : (D.s.length : Int) - (J.fin : Int) < (count t.length : Int)
    · rw [appendJ, if_neg (by simp [h1]), if_neg h2, if_pos h3] at he
      cases he
      exact ⟨S, g, rfl, fun _ _ => rfl, by simp, by simp, fun _ => ⟨rfl, rfl, rfl⟩, .inr ⟨rfl, .inr (.inl rfl), rfl, Nat.le_refl _⟩⟩
    · rw [appendJ_go h1 h2 h3] at he
      obtain ⟨ss, hss⟩ : ∃ ss, ss = pack J.next t := ⟨_, rfl⟩
      have hlen : ss.length = count t.length := by rw [hss, pack_len]
      have hN := g.n1
      have hle := g.le
      have h64 : ∀ s ∈ ss, s.length = 64 := by
        intro s hs
        rw [hss] at hs
        obtain ⟨k, _, rfl⟩ := List.mem_map.1 hs
        exact sector_len _ _ _
      obtain ⟨E, e1, e2, e3, e4, e5, e6, e7, e8w⟩ := put_flush (ss := ss) (a := J.fin) g.off g.left g.nx (by omega) h64
      have e8 := rdAll_ok E e3 ss J.fin true (by omega)
      obtain ⟨b, hb⟩ : ∃ b : Bool, b = decide (∀ k, k < ss.length → nth ss k = nth (conts E) (J.fin + k)) := ⟨_, rfl⟩
      rw [← hb, Bool.true_and] at e8
      have hw : writeJ D J.fin ss = ((0, b), E) := by
        unfold writeJ
        rw [if_pos (by rw [e1]), e2, if_pos rfl, e8]
      rw [← hss, hw] at he
      dsimp only at he
      rw [if_pos rfl] at he
      have hcl : (conts D).length = D.s.length := conts_len D
      obtain ⟨F, hF⟩ : ∃ F, F = S.flatMap (·.1.l) := ⟨_, rfl⟩
      have hcon := g.con
      have hfin := g.fin
      rw [← hF] at hcon hfin
      have hz : ∀ i, J.fin ≤ i → i < D.s.length → nth (conts D) i = zero64 := by
        intro i q1 q2
        rw [hcon, nth_append_right (by omega), nth_replicate _ _ (by omega)]
      obtain ⟨mid, hmid⟩ : ∃ mid, mid = (List.range (count t.length)).map fun k => nth (conts E) (J.fin + k) := ⟨_, rfl⟩
      have hml : mid.length = count t.length := by rw [hmid]; simp
      have hmn : ∀ k, k < count t.length → nth mid k = nth (conts E) (J.fin + k) := by
        intro k hk
        rw [nth_eq (by omega)]; simp [hmid]
      have hms : ∀ k, k < count t.length → nth mid k = if (nth D.s (J.fin + k)).worn = false then sector J.next t k else zero64 := by
        intro k hk
        rw [hmn k hk, e7 _ (by omega)]
        by_cases w : (nth D.s (J.fin + k)).worn = false
        · rw [if_pos ⟨by omega, by omega, w⟩, if_pos w, hss, Nat.add_sub_cancel_left, nth_pack _ _ hk]
        · rw [if_neg (fun z => w z.2.2), if_neg w, hz _ (by omega) (by omega)]
      have hE : conts E = (F ++ mid) ++ List.replicate (E.s.length - (J.fin + count t.length)) zero64 := by
        refine ext_nth (by rw [conts_len, List.length_append, List.length_append, List.length_replicate]; omega) fun i hi => ?_
        rw [conts_len, e6] at hi
        by_cases q1 : i < J.fin
        · rw [e7 i hi, if_neg (by omega), hcon, nth_append_left (by omega), nth_append_left (by rw [List.length_append]; omega), nth_append_left (by omega)]
        · by_cases q2 : i < J.fin + count t.length
          · rw [nth_append_left (by rw [List.length_append]; omega), nth_append_right (by omega), hmn _ (by omega)]
            congr 1; omega
          · rw [nth_append_right (by rw [List.length_append]; omega), nth_replicate _ _ (by rw [List.length_append]; omega), e7 i hi, if_neg (by omega), hz i (by omega) hi]
      have ok : Seg.ok ⟨J.next, t, mid⟩ := ⟨hN, by show J.next ≤ 4096; omega, by show t.length ≤ 8000; omega, hml, fun k hk => by
        show nth mid k = _ ∨ unpack (nth mid k) = _
        rw [hms k hk]
        split
        · exact .inl rfl
        · exact .inr unpack_zero⟩
      have hbt : b = true → mid = pack J.next t := by
        intro q
        rw [hb] at q
        have q := of_decide_eq_true q
        refine ext_nth (by rw [hml, pack_len]) fun k hk => ?_
        rw [hmn k (by omega), ← hss]
        exact (q k (by omega)).symm
      have hbf : b = false → ∃ k, k < count t.length ∧ unpack (nth mid k) = none := by
        intro q
        rw [hb] at q
        have q := of_decide_eq_false q
        refine Classical.byContradiction fun no => q fun k hk => ?_
        rw [← hmn k (by omega), hms k (by omega)]
        by_cases w : (nth D.s (J.fin + k)).worn = false
        · rw [if_pos w, hss, nth_pack _ _ (by omega)]
        · exact absurd ⟨k, by omega, by rw [hms k (by omega), if_neg w, unpack_zero]⟩ no
      have inv : ∀ J2 : Jst, J2.fin = J.fin + count t.length → J2.next = J.next + 1 → J2.closed = false → J2.recs = (if b then J.recs ++ [(J.next, t)] else J.recs) → GInv (S ++ [(⟨J.next, t, mid⟩, b)]) J2 E := by
        intro J2 j1 j2 j3 j4
        refine ⟨e3, e4, e5, ?_, ?_, by omega, ?_, ?_, ?_, ?_, ?_, ?_, by omega, by omega, j3⟩
        · rw [hE, List.flatMap_append, ← hF, j1]; simp
        · rw [List.flatMap_append, ← hF, j1]; simp [hfin, hml]
        · intro x hx
          rcases List.mem_append.1 hx with hx | hx
          · exact g.ok x hx
          · simp at hx; subst hx; exact ok
        · intro x hx
          rcases List.mem_append.1 hx with hx | hx
          · exact g.yes x hx
          · simp at hx; subst hx; exact hbt
        · intro x hx
          rcases List.mem_append.1 hx with hx | hx
          · exact g.no x hx
          · simp at hx; subst hx; exact hbf
        · rw [j4, g.recs, List.filter_append, List.map_append]
          cases b <;> simp
        · intro x hx
          rcases List.mem_append.1 hx with hx | hx
          · have := g.lt x hx; omega
          · simp at hx; subst hx; show J.next < _; omega
        · rw [List.pairwise_append]
          refine ⟨g.inc, by simp, fun x hx y hy => ?_⟩
          simp at hy; subst hy
          exact g.lt x hx
      cases b with
      | true =>
        rw [if_pos rfl] at he
        cases he
        exact ⟨_, inv _ rfl rfl h1 rfl, e6, e8w, by simp, fun _ => ⟨mid, rfl⟩, by simp, .inl ⟨rfl, rfl, rfl, rfl⟩⟩
      | false =>
        rw [if_neg (by simp)] at he
        cases he
        refine ⟨_, inv _ rfl rfl h1 rfl, e6, e8w, ?_, by simp, by simp, .inr ⟨rfl, .inr (.inr rfl), rfl, by simp⟩⟩
        intro hw
        obtain ⟨k, hk, hz⟩ := hbf rfl
        rw [hms k hk, if_pos (hw _ (by omega)), good_sector _ _ _ hN (by omega) (by omega) hk] at hz
        simp at hz
theorem GInv.step {S : List (Seg × Bool)} {J : Jst} {D : Dsk} (g : GInv S J D) (t : Bs) (C : Int) (J' : Jst) (D' : Dsk) (n : Int) (he : appendJ J D t = ((n, C), (J', D'))) :
    (∃ S', GInv S' J' D') ∧ D'.s.length = D.s.length ∧ ((C = 0 ∧ n = (J.next : Int) ∧ J'.recs = J.recs ++ [(J.next, t)] ∧ J'.next = J.next + 1) ∨ (n = 0 ∧ (C = 4 ∨ C = 20 ∨ C = 22) ∧ J'.recs = J.recs ∧ J.next ≤ J'.next)) := by
  obtain ⟨S', g', h1, _, _, _, _, h2⟩ := g.step1 t C J' D' n he
  exact ⟨⟨S', g'⟩, h1, h2⟩
end Go.Proofs.YtjofjgflcogklaaGreatDoor

namespace Go.Abs
def mnxV (mx : Bool) : AVal → AVal → Option AVal
  | .int k a, .int _ b => some (.int k (if mx then (if a < b then b else a) else (if b < a then b else a)))
  | _, _ => none
theorem mnxV_int (mx : Bool) (k k' : IntKind) (a b : Int) : mnxV mx (.int k a) (.int k' b) = some (.int k (if mx then (if a < b then b else a) else (if b < a then b else a))) := rfl
theorem XW_mnx {F : Nat → Option AEnt} {ev : Opd → AVal} {h : Heap} {K : AVal → Heap → Prop} {mx : Bool} {x y : Opd} : XW F (.mnx mx x y) ev h K ↔ bindK (mnxV mx (ev x) (ev y)) K h :=
  XW_val (fun _ => rfl) (by
    simp only [evalA]
    generalize ev x = a
    generalize ev y = b
    cases a <;> cases b <;> rfl)
end Go.Abs
namespace Go.Proofs.YtjofjgflcogklaaGreatDoor
open Go Go.Abs Go.Sha Go.Jn
structure Stp where
  kind : Int
  i : Int
  bit : Int
  size : Int
  fill : UInt8
  picks : List Int
  tk : Tok
  deriving Inhabited
def Stp.cells (o : Stp) : List AVal := [.int .i64 o.kind, .int .i64 o.i, .int .i64 o.bit, .int .i64 o.size, byteV o.fill, .sl (o.picks.map (.int .i64)) o.tk]
def Stp.val (o : Stp) : AVal := .agg o.cells
structure Stp.ok (o : Stp) : Prop where
  plen : o.picks.length ≤ 9223372036854775807
  tk : o.tk = .none ∨ o.tk = .nil ∧ o.picks = []
  ib : -9223372036854775808 ≤ o.i ∧ o.i < 9223372036854775808
def Stp.len (o : Stp) : Nat := (min (max o.size 0) 8100).toNat
def runB (f : UInt8) (n : Nat) : Bs := (List.range n).map fun k => f + UInt8.ofNat k
def Stp.text (o : Stp) : Bs := runB o.fill o.len
theorem runB_len (f : UInt8) (n : Nat) : (runB f n).length = n := by simp [runB]
theorem runB_succ (f : UInt8) (n : Nat) : runB f (n + 1) = runB f n ++ [f + UInt8.ofNat n] := by simp [runB, List.range_succ]
theorem Stp.text_len (o : Stp) : o.text.length ≤ 8100 := by rw [Stp.text, runB_len, Stp.len]; omega
theorem stext_v (o : Stp) : PV F 27 [o.val] = some (.str o.text) := by
  refine PV_wp (fn := c27) rfl ?_
  dsimp only [oT, oN, oV, oG, oW, c27, Stp.val, Stp.cells]
  obtain ⟨N, hN⟩ : ∃ N, N = o.len := ⟨_, rfl⟩
  have hNle : N ≤ 8100 := by rw [hN, Stp.len]; omega
  have hM : (if (8100 : Int) < (if o.size < 0 then 0 else o.size) then 8100 else (if o.size < 0 then 0 else o.size)) = (N : Int) := by
    rw [hN, Stp.len]
    split <;> split at * <;> omega
  have hT : o.text = runB o.fill N := by rw [hN]; rfl
  replace fx := aI @XW_mnx (aI @mnxV_int (aI @hM (aI @byte_cells @byte_one)))
  (first | refine go ?_ | exact goC | skip); repeat' (first | refine gP ?_ | exact gPc | refine gN ?_ | exact gNc | (refine gI ?_ ?_ <;> intro hyp <;> first | refine goF ?_ | exact goFc | refine goT ?_ | exact goTc | skip))
  refine w_loop (fun m vs h' => ∃ (k : Nat) (tk : Tok) (x1 : AVal), m = N - k ∧ k ≤ N ∧ vs = [o.val, .ptr 0 0, .str [], .int .i64 (N : Int), .sl ((runB o.fill k).map byteV) tk, .int .i64 (k : Int), x1] ∧
      h'.get 0 = some (.row true 0 true o.cells) ∧ GrF (fun _ => False) (Heap.empty.push (.row true 0 true o.cells)) h' 5 1 (runB o.fill k) tk) N
    ⟨0, .nil, _, rfl, by omega, rfl, get_push_eq rfl, GrF.nil _ _ _ _⟩ ?_
  rintro m vs h' ⟨k, tk, x1, rfl, hk, rfl, g, G⟩
  have sl := runB_len o.fill k
  have ss := runB_succ o.fill k
  unfold Stp.cells at g
  by_cases hkm : k < N
  · have e3 : toIntA .u8 (.int .i64 ((k : Nat) : Int)) = some (byteV (UInt8.ofNat k)) := by rw [toU8]
    have e4 : ∀ a b : UInt8, binA .add .arith (byteV a) (byteV b) = some (byteV (a + b)) := fun a b => by
      have : IntKind.u8.wrap ((a.toNat : Int) + (b.toNat : Int)) = ((a + b).toNat : Int) := by
        rw [u8_wrap, UInt8.toNat_add]; omega
      simp only [byteV, binA, intBin, if_true, this, reduceCtorEq, or_self, if_false]
    have lb : ∀ (x : UInt8) H, litA 0 5 1 1 false [.int .u8 0] (some [byteV x]) H = some (.sl (([x] : List UInt8).map byteV) .none, H) := fun x H => lit_none rfl rfl rfl rfl
    replace fx := aI @g (aI @e3 (aI @e4 (aI @lb (aI @byte_cells @byte_one))))
    (first | refine go ?_ | exact goC | skip); repeat' (first | refine gP ?_ | exact gPc | refine gN ?_ | exact gNc | (refine gI ?_ ?_ <;> intro hyp <;> first | refine goF ?_ | exact goFc | refine goT ?_ | exact goTc | skip))
    refine append_F (f := byteV) (runB o.fill k) [o.fill + UInt8.ofNat k] byte_len (fun x => rfl) (fun x => rfl) rfl (elems_sl (l := [_]) byte_len) G (by rw [sl]; simp; omega) (by omega) (by omega) (by omega) ?_
    intro h1 tk1 G1 n1 kr _
    rw [← ss] at G1 ⊢
    replace fx := Dum_eq
    (first | refine go ?_ | exact goC | skip); repeat' (first | refine gP ?_ | exact gPc | refine gN ?_ | exact gNc | (refine gI ?_ ?_ <;> intro hyp <;> first | refine goF ?_ | exact goFc | refine goT ?_ | exact goTc | skip))
    exact lp_n ⟨_, by omega, k + 1, tk1, _, rfl, by omega, rfl, kr _ _ _ _ _ g, G1⟩
  · have e : k = N := by omega
    subst e
    rw [hT]
    replace fx := Dum_eq
    (first | refine go ?_ | exact goC | skip); repeat' (first | refine gP ?_ | exact gPc | refine gN ?_ | exact gNc | (refine gI ?_ ?_ <;> intro hyp <;> first | refine goF ?_ | exact goFc | refine goT ?_ | exact goTc | skip))
structure Virgin (n : Nat) (D : Dsk) : Prop where
  off : D.off = false
  left : D.left = none
  len : D.s.length = n
  all : ∀ x ∈ D.s, x.text = zeroB ∧ x.next = none
theorem Virgin.wear {n : Nat} {D : Dsk} (v : Virgin n D) (i : Int) : Virgin n (D.wear i).2 := by
  unfold Dsk.wear
  split
  · exact v
  · rename_i hi
    refine ⟨v.off, v.left, by simp [v.len], fun x hx => ?_⟩
    rcases List.mem_or_eq_of_mem_set hx with hx | rfl
    · exact v.all x hx
    · exact v.all (nth D.s i.toNat) (nth_mem (by omega))
theorem Virgin.conts {n : Nat} {D : Dsk} (v : Virgin n D) : conts D = List.replicate n zero64 := by
  refine ext_nth (by rw [conts_len, v.len, List.length_replicate]) fun i hi => ?_
  rw [conts_len] at hi
  obtain ⟨h1, h2⟩ := v.all _ (nth_mem hi)
  rw [nth_conts D hi, h1, h2, nth_replicate _ _ (by rw [← v.len]; exact hi)]
  rfl
theorem heads_blank (n : Nat) : ∀ k, k ≤ n → heads (List.replicate n zero64) k = ⟨[], [], 1, 0, false⟩
  | 0, _ => rfl
  | k + 1, h => by
    rw [heads, heads_blank n k (by omega), nth_replicate _ _ (by omega), scanSec, unpack_zero]
    rfl
theorem Virgin.opened {n : Nat} {D : Dsk} (v : Virgin n D) : openJ (Go.Proofs.YtjofjgflcogklaaGreatDoor.conts D) = ⟨[], [], 1, 0, false⟩ := by
  rw [v.conts, openJ, List.length_replicate, heads_blank n n (Nat.le_refl _), scan_blank]
theorem Virgin.inv {n : Nat} {D : Dsk} (v : Virgin n D) : GInv [] ⟨[], [], 1, 0, false⟩ D :=
  ⟨v.off, v.left, fun x hx => (v.all x hx).2, by rw [v.conts, v.len]; rfl, rfl, by simp, by simp, by simp, by simp, rfl, by simp, List.Pairwise.nil, by simp, by simp, rfl⟩
end Go.Proofs.YtjofjgflcogklaaGreatDoor

namespace Go.Proofs.YtjofjgflcogklaaGreatDoor
open Go Go.Abs Go.ChangeShapes Go.WideShapes Go.ChangeAt Go.RowKit
attribute [local irreducible] okA
theorem wf_u8 {n : Int} (h : (Lit.int .u8 n).wf = true) : 0 ≤ n ∧ n < 256 := by
  simp only [Lit.wf, Bool.and_eq_true, decide_eq_true_eq] at h
  have h1 : IntKind.u8.min = 0 := rfl
  have h2 : IntKind.u8.max = 255 := rfl
  omega
theorem byte_of {n : Int} (h : 0 ≤ n ∧ n < 256) : AVal.int .u8 n = byteV (UInt8.ofNat n.toNat) := by
  unfold byteV
  congr 1
  simp
  omega
theorem argX {n : Nat} {x : AVal} (h1 : mk (isSt Tryz.prog 56) x.cells = some x) (h2 : okA Tryz.prog (n + 3) 56 x.cells) : ∃ o : Stp, x = o.val ∧ o.ok := by
  have hst : isSt Tryz.prog 56 = true := by kernel_rfl
  have hsi : isSt Tryz.prog 3 = false := by kernel_rfl
  rw [hst] at h1
  rw [okA] at h2
  simp only [Tryz.underlying56] at h2
  obtain ⟨hlen, hf⟩ := h2
  have hx : x = .agg x.cells := by simpa [mk] using h1.symm
  obtain ⟨y0, e0, q0⟩ := hf 0 _ rfl
  obtain ⟨y1, e1, q1⟩ := hf 1 _ rfl
  obtain ⟨y2, e2, q2⟩ := hf 2 _ rfl
  obtain ⟨y3, e3, q3⟩ := hf 3 _ rfl
  obtain ⟨y4, e4, q4⟩ := hf 4 _ rfl
  obtain ⟨y5, e5, q5⟩ := hf 5 _ rfl
  have hl : x.cells = [y0, y1, y2, y3, y4, y5] := by
    generalize x.cells = l at hlen e0 e1 e2 e3 e4 e5
    match l, hlen with
    | [a, b, c, d, e, f], _ => simp at e0 e1 e2 e3 e4 e5; subst e0; subst e1; subst e2; subst e3; subst e4; subst e5; rfl
  replace q0 : okA Tryz.prog (n + 2) 3 [y0] := q0
  replace q1 : okA Tryz.prog (n + 2) 3 [y1] := q1
  replace q2 : okA Tryz.prog (n + 2) 3 [y2] := q2
  replace q3 : okA Tryz.prog (n + 2) 3 [y3] := q3
  replace q4 : okA Tryz.prog (n + 2) 5 [y4] := q4
  replace q5 : okA Tryz.prog (n + 2) 51 [y5] := q5
  rw [okA] at q0 q1 q2 q3 q4 q5
  simp only [Tryz.underlying3] at q0 q1 q2 q3
  simp only [Tryz.underlying5] at q4
  simp only [Tryz.underlying51] at q5
  obtain ⟨z0, h0, w0⟩ := q0
  obtain ⟨z1, h1', w1⟩ := q1
  obtain ⟨z2, h2', w2⟩ := q2
  obtain ⟨z3, h3', w3⟩ := q3
  obtain ⟨z4, h4', w4⟩ := q4
  obtain ⟨xs, tk, h5', htk, hln, hall⟩ := q5
  rw [maxLen_eq] at hln
  obtain ⟨l, rfl, hl'⟩ := list_of (f := AVal.int .i64) (q := I64) (fun x hx => argI (n := n) hx.1 hx.2) hall
  simp at h0 h1' h2' h3' h4' h5'
  subst h0; subst h1'; subst h2'; subst h3'; subst h4'; subst h5'
  refine ⟨⟨z0, z1, z2, z3, UInt8.ofNat z4.toNat, l, tk⟩, ?_, by simpa using hln, ?_, wf_i64 w1⟩
  · rw [hx, hl]
    show _ = AVal.agg [_, _, _, _, byteV _, _]
    rw [← byte_of (wf_u8 w4)]
  · rcases htk with rfl | ⟨rfl, h⟩
    · exact .inl rfl
    · exact .inr ⟨rfl, by simpa using h⟩
theorem argP {n : Nat} {x : AVal} (h1 : mk (isSt Tryz.prog 40) x.cells = some x) (h2 : okA Tryz.prog (n + 4) 40 x.cells) : ∃ (l : List Stp) (tk : Abs.Tok), x = .sl (l.map Stp.val) tk ∧ (∀ o ∈ l, o.ok) ∧ l.length ≤ 9223372036854775807 := by
  have hst : isSt Tryz.prog 40 = false := by kernel_rfl
  rw [hst] at h1
  rw [okA] at h2
  simp only [Tryz.underlying40] at h2
  obtain ⟨xs, tk, hx, htk, hlen, hall⟩ := h2
  rw [maxLen_eq] at hlen
  obtain ⟨l, rfl, hl⟩ := list_of (f := Stp.val) (q := Stp.ok) (fun x hx => argX (n := n) hx.1 hx.2) hall
  exact ⟨l, tk, mk_one (ag := false) h1 hx, hl, by simpa using hlen⟩
end Go.Proofs.YtjofjgflcogklaaGreatDoor
