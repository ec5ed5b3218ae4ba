/-
  Merged from JsK JsL JnG JnH JsArgP JsS JsT JnI: What a journal tells: Numbers, Texts, Bad, Next, Room, Damaged.
-/
import Derived.Test.YtjofjgflcogklaaDoorM05
import Derived.Test.YtjofjgflcogklaaDoorM04
import Derived.KernelRfl
set_option linter.unusedSimpArgs false
set_option linter.unusedVariables false
set_option linter.defProp false
set_option linter.constructorNameAsVariable false
/-
  What a journal tells: Numbers, Texts, Bad, Next, Room, Damaged.
-/
set_option maxHeartbeats 4000000
namespace Go.Abs
variable {F : Nat → Option AEnt}
def ClV {α : Type} (h : Heap) (v : AVal) (f : α → AVal) (l : List α) : Prop := (l = [] ∧ (v = .sl [] .nil ∨ v = .sl [] .full)) ∨ ∃ id, v = .ref id 0 l.length 1 ∧ h.get id = some (.row true 1 false (flat (l.map f)))
theorem ClV.fr {α : Type} {S : Nat → Prop} {h h' : Heap} {v : AVal} {f : α → AVal} {l : List α} (c : ClV h v f l) (fr : Fr (fun _ => False) h h') : ClV h' v f l := by
  rcases c with c | ⟨id, e, g⟩
  · exact .inl c
  · exact .inr ⟨id, e, fr.get g (fun q => q)⟩
theorem pur_tk2 (h : Heap) (xs : List AVal) (tk : Tok) : ∃ u, Pt u ∧ purify h (.sl xs tk) = some (.sl xs u) ∧ strip (.sl xs tk) = some (.sl xs u) := by
  cases tk with
  | none => exact ⟨.none, .inl rfl, rfl, rfl⟩
  | nil => exact ⟨.nil, .inr rfl, rfl, rfl⟩
  | own i s => exact ⟨.none, .inl rfl, rfl, rfl⟩
  | full => exact ⟨.none, .inl rfl, by simp only [purify], by simp only [strip]⟩
def Pu (h : Heap) (v : AVal) (xs : List AVal) : Prop := ∃ u, Pt u ∧ purify h v = some (.sl xs u) ∧ (strip v = none ∨ strip v = some (.sl xs u))
theorem Pu.sl (h : Heap) (xs : List AVal) (tk : Tok) : Pu h (.sl xs tk) xs := by
  obtain ⟨u, h1, h2, h3⟩ := pur_tk2 h xs tk
  exact ⟨u, h1, h2, .inr h3⟩
theorem ClV.pu {α : Type} [Inhabited α] {h : Heap} {v : AVal} {f : α → AVal} {l : List α} (c : ClV h v f l) (h1 : ∀ x, (f x).cells.length = 1) (h2 : ∀ x, stripL (f x).cells = some (f x).cells) (h3 : ∀ x, mk false (f x).cells = some (f x)) : Pu h v (l.map f) := by
  rcases c with ⟨rfl, rfl | rfl⟩ | ⟨id, rfl, g⟩
  · exact Pu.sl h [] .nil
  · exact Pu.sl h [] .full
  · refine ⟨.none, .inl rfl, ?_, .inl rfl⟩
    rw [pu_ref]
    have hs : stripL (flat (l.map f)) = some (flat (l.map f)) := stripm h2 l
    have hc := chunkm (f := f) (sz := 1) h1 false h3 l []
    rw [List.append_nil] at hc
    have hr : readRef h id 0 l.length 1 = some (l.map f) := by
      unfold readRef
      simp only [g]
      rw [if_pos ⟨.inl trivial, by rw [flatm_len h1]; omega⟩]
      simp only [hs, Bool.false_and, List.drop_zero]
      exact hc
    rw [hr]; rfl
theorem gv_b {g : Nat} {a : List AVal} {b : Bool} (e : PV F g a = some (.bool b)) : ∃ h', GV F g a Heap.empty = some (.bool b, h') := by
  unfold PV at e
  split at e
  · rename_i r h' hg
    refine ⟨h', ?_⟩
    have : r = .bool b := by
      cases r with
      | sl xs t => obtain ⟨u, _, q, _⟩ := pur_tk2 h' xs t; rw [q] at e; simp at e
      | _ => simp [purify] at e <;> first | exact e ▸ rfl | skip
    rw [hg, this]
  · simp at e
theorem pc_two {f : Nat} {h : Heap} {v w : AVal} {xs ys : List AVal} {b : Bool} {K : AVal → Heap → Prop} (hv : Pu h v xs) (hw : Pu h w ys) (e : ∀ u u', Pt u → Pt u' → PV F f [.sl xs u, .sl ys u'] = some (.bool b)) (k : K (.bool b) h) :
    PC F f (sc (strip v) (sc (strip w) (some []))) [v, w] h K := by
  obtain ⟨u, hu, p1, s1⟩ := hv
  obtain ⟨u', hu', p2, s2⟩ := hw
  have e := e u u' hu hu'
  obtain ⟨h', g⟩ := gv_b e
  have hn : PC F f none [v, w] h K := PC_none.2 ⟨[.sl xs u, .sl ys u'], by rw [puL_cons, puL_cons, puL_nil, p1, p2]; rfl, _, _, g, rfl, k⟩
  rcases s1 with s1 | s1 <;> rcases s2 with s2 | s2 <;> rw [s1, s2]
  · exact hn
  · exact hn
  · exact hn
  · exact PC_some.2 ⟨_, e, k⟩
end Go.Abs
namespace Go.Proofs.YtjofjgflcogklaaDoor
open Go Go.Abs Go.Sha Go.Jn
variable {h : Heap} {d b p w : Nat} {D : Dsk}
theorem cmp_eql (b : Bool) : cmpA .eql (some b) = some (.bool b) := rfl
theorem afresh_c {α : Type} [Inhabited α] {f : α → AVal} (h1 : ∀ x, (f x).cells.length = 1) (l : List α) (hl : l.length ≤ 1000000) (ty bytes : Nat) (hb : bytes ≤ 10000) (t : Tok) (h : Heap) :
    ∃ v h', evalX (.afresh ty bytes 1 false) [.sl [] .full, .sl (l.map f) t] h = some (v, h') ∧ ClV h' v f l ∧ Fr (fun _ => False) h h' := by
  have he : elemsA h 1 (.sl (l.map f) t) = some (flat (l.map f)) := elems_sl h1
  have hlen : lenA (.sl (l.map f) t) = some l.length := lenA_sl
  by_cases hn : l = []
  · subst hn
    exact ⟨.sl [] .full, h, rfl, .inl ⟨rfl, .inr rfl⟩, Fr.refl _ _⟩
  · have hne : l.length ≠ 0 := fun e => hn (List.length_eq_zero_iff.1 e)
    have hr := roomOk_of (n := 0 + l.length) (bytes := bytes) (by omega) hb
    refine ⟨.ref h.next 0 l.length 1, h.push (.row true 1 false (flat (l.map f))), ?_, .inr ⟨_, rfl, get_push_eq rfl⟩, (Fr.refl _ _).push _⟩
    simp only [evalX, appendA, hlen, he, hne, if_false, List.length_nil, hr]
    rfl
theorem cloneI_c (l : List Nat) (hl : l.length ≤ 1000000) {tk : Tok} {h : Heap} (g : GrN h 3 1 l tk) : CV F 37 [.sl (l.map intN) tk] h (fun v h' => ClV h' v intN l ∧ Fr (fun _ => False) h h') := by
  refine CV_wp (fn := c37) rfl ?_
  dsimp only [c37]
  rcases g with ⟨rfl, rfl⟩ | ⟨id, rfl, g⟩
  · have e : ∀ (x : List AVal), slEq (.sl x .nil) (.sl [] .nil) = some true := fun _ => rfl
    replace fx := aI @bin_sl (aI @e @cmp_eql)
    (first | refine go ?_ | exact goC | skip); repeat' (first | refine gP ?_ | exact gPc | refine gN ?_ | exact gNc | (refine gI ?_ ?_ <;> intro hyp <;> first | refine goF ?_ | exact goFc | refine goT ?_ | exact goTc | skip))
    exact ⟨.inl ⟨rfl, .inl rfl⟩, Fr.refl _ _⟩
  · have e : ∀ (x : List AVal), slEq (.sl x (.own id 1)) (.sl [] .nil) = some false := fun _ => rfl
    obtain ⟨v, h', e1, e2, e3⟩ := afresh_c intN_len l hl 3 8 (by omega) (.own id 1) h
    replace fx := aI @bin_sl (aI @e (aI @cmp_eql (aI @evx_elit @e1)))
    (first | refine go ?_ | exact goC | skip); repeat' (first | refine gP ?_ | exact gPc | refine gN ?_ | exact gNc | (refine gI ?_ ?_ <;> intro hyp <;> first | refine goF ?_ | exact goFc | refine goT ?_ | exact goTc | skip))
    exact ⟨e2, e3⟩
theorem cloneS_c (l : List Bs) (hl : l.length ≤ 1000000) {tk : Tok} {h : Heap} (g : GrN h 9 1 l tk) : CV F 38 [.sl (l.map strV) tk] h (fun v h' => ClV h' v strV l ∧ Fr (fun _ => False) h h') := by
  refine CV_wp (fn := c38) rfl ?_
  dsimp only [c38]
  rcases g with ⟨rfl, rfl⟩ | ⟨id, rfl, g⟩
  · have e : ∀ (x : List AVal), slEq (.sl x .nil) (.sl [] .nil) = some true := fun _ => rfl
    replace fx := aI @bin_sl (aI @e @cmp_eql)
    (first | refine go ?_ | exact goC | skip); repeat' (first | refine gP ?_ | exact gPc | refine gN ?_ | exact gNc | (refine gI ?_ ?_ <;> intro hyp <;> first | refine goF ?_ | exact goFc | refine goT ?_ | exact goTc | skip))
    exact ⟨.inl ⟨rfl, .inl rfl⟩, Fr.refl _ _⟩
  · have e : ∀ (x : List AVal), slEq (.sl x (.own id 1)) (.sl [] .nil) = some false := fun _ => rfl
    obtain ⟨v, h', e1, e2, e3⟩ := afresh_c strV_len l hl 9 16 (by omega) (.own id 1) h
    replace fx := aI @bin_sl (aI @e (aI @cmp_eql (aI @evx_elit @e1)))
    (first | refine go ?_ | exact goC | skip); repeat' (first | refine gP ?_ | exact gPc | refine gN ?_ | exact gNc | (refine gI ?_ ?_ <;> intro hyp <;> first | refine goF ?_ | exact goFc | refine goT ?_ | exact goTc | skip))
    exact ⟨e2, e3⟩
theorem numbers_c {j : Nat} {t1 t2 t3 : Tok} {J : Jst} (P : PJ h j d t1 t2 t3 J) (hl : J.nums.length ≤ 1000000) : CV F 19 [.ptr j 0] h (fun v h' => ClV h' v intN J.nums ∧ Fr (fun _ => False) h h') := by
  refine CV_wp (fn := c19) rfl ?_
  dsimp only [c19]
  have prow := P.row
  replace fx := @prow
  (first | refine go ?_ | exact goC | skip); repeat' (first | refine gP ?_ | exact gPc | refine gN ?_ | exact gNc | (refine gI ?_ ?_ <;> intro hyp <;> first | refine goF ?_ | exact goFc | refine goT ?_ | exact goTc | skip))
  refine CV_mono (cloneI_c _ hl P.tk.g1) ?_
  rintro v h' ⟨q1, q2⟩
  replace fx := Dum_eq
  (first | refine go ?_ | exact goC | skip); repeat' (first | refine gP ?_ | exact gPc | refine gN ?_ | exact gNc | (refine gI ?_ ?_ <;> intro hyp <;> first | refine goF ?_ | exact goFc | refine goT ?_ | exact goTc | skip))
  exact ⟨q1, q2⟩
theorem texts_c {j : Nat} {t1 t2 t3 : Tok} {J : Jst} (P : PJ h j d t1 t2 t3 J) (hl : J.texts.length ≤ 1000000) : CV F 20 [.ptr j 0] h (fun v h' => ClV h' v strV J.texts ∧ Fr (fun _ => False) h h') := by
  refine CV_wp (fn := c20) rfl ?_
  dsimp only [c20]
  have prow := P.row
  replace fx := @prow
  (first | refine go ?_ | exact goC | skip); repeat' (first | refine gP ?_ | exact gPc | refine gN ?_ | exact gNc | (refine gI ?_ ?_ <;> intro hyp <;> first | refine goF ?_ | exact goFc | refine goT ?_ | exact goTc | skip))
  refine CV_mono (cloneS_c _ hl P.tk.g3) ?_
  rintro v h' ⟨q1, q2⟩
  replace fx := Dum_eq
  (first | refine go ?_ | exact goC | skip); repeat' (first | refine gP ?_ | exact gPc | refine gN ?_ | exact gNc | (refine gI ?_ ?_ <;> intro hyp <;> first | refine goF ?_ | exact goFc | refine goT ?_ | exact goTc | skip))
  exact ⟨q1, q2⟩
theorem bad_c {j : Nat} {t1 t2 t3 : Tok} {J : Jst} (P : PJ h j d t1 t2 t3 J) (hl : J.bad.length ≤ 1000000) : CV F 26 [.ptr j 0] h (fun v h' => ClV h' v intN J.bad ∧ Fr (fun _ => False) h h') := by
  refine CV_wp (fn := c26) rfl ?_
  dsimp only [c26]
  have prow := P.row
  replace fx := @prow
  (first | refine go ?_ | exact goC | skip); repeat' (first | refine gP ?_ | exact gPc | refine gN ?_ | exact gNc | (refine gI ?_ ?_ <;> intro hyp <;> first | refine goF ?_ | exact goFc | refine goT ?_ | exact goTc | skip))
  refine CV_mono (cloneI_c _ hl P.tk.g2) ?_
  rintro v h' ⟨q1, q2⟩
  replace fx := Dum_eq
  (first | refine go ?_ | exact goC | skip); repeat' (first | refine gP ?_ | exact gPc | refine gN ?_ | exact gNc | (refine gI ?_ ?_ <;> intro hyp <;> first | refine goF ?_ | exact goFc | refine goT ?_ | exact goTc | skip))
  exact ⟨q1, q2⟩
theorem next_c {j : Nat} {t1 t2 t3 : Tok} {J : Jst} (P : PJ h j d t1 t2 t3 J) : CV F 21 [.ptr j 0] h (fun v h' => v = .int .i64 (J.next : Int) ∧ h' = h) := by
  refine CV_wp (fn := c21) rfl ?_
  dsimp only [c21]
  have prow := P.row
  replace fx := @prow
  (first | refine go ?_ | exact goC | skip); repeat' (first | refine gP ?_ | exact gPc | refine gN ?_ | exact gNc | (refine gI ?_ ?_ <;> intro hyp <;> first | refine goF ?_ | exact goFc | refine goT ?_ | exact goTc | skip))
theorem room_c {j : Nat} {t1 t2 t3 : Tok} {J : Jst} (P : PJ h j d t1 t2 t3 J) (PD0 : PD h d b p w D) (hf : J.fin ≤ D.s.length) : CV F 22 [.ptr j 0] h (fun v h' => v = .int .i64 ((D.s.length : Int) - (J.fin : Int)) ∧ h' = h) := by
  refine CV_wp (fn := c22) rfl ?_
  dsimp only [c22]
  have prow := P.row
  have L := cv_rw (len_c PD0)
  have hl := PD0.ok.len
  replace fx := aI @prow @L
  (first | refine go ?_ | exact goC | skip); repeat' (first | refine gP ?_ | exact gPc | refine gN ?_ | exact gNc | (refine gI ?_ ?_ <;> intro hyp <;> first | refine goF ?_ | exact goFc | refine goT ?_ | exact goTc | skip))
def missing (l : List Nat) (n : Nat) : List Nat := (List.range n).filter fun i => decide (1 ≤ i) && !decide (i ∈ l)
theorem damaged_eq (J : Jst) : damaged J = missing J.nums J.next := rfl
theorem missing_succ (l : List Nat) (n : Nat) (hn : 1 ≤ n) : missing l (n + 1) = missing l n ++ (if n ∈ l then [] else [n]) := by
  rw [missing, missing, List.range_succ, List.filter_append]
  congr 1
  by_cases h : n ∈ l <;> simp [h, hn]
theorem missing_one (l : List Nat) : missing l 1 = [] := rfl
theorem missing_len (l : List Nat) (n : Nat) : (missing l n).length ≤ n := by
  have := List.length_filter_le (fun i => decide (1 ≤ i) && !decide (i ∈ l)) (List.range n)
  simpa [missing] using this
theorem mem_take_succ (l : List Nat) {k : Nat} (hk : k < l.length) (i : Nat) : i ∈ l.take (k + 1) ↔ i = nth l k ∨ i ∈ l.take k := by
  rw [List.take_succ_eq_append_getElem hk, List.mem_append, nth_eq hk]
  simp [or_comm]
def inF (l : List Nat) (i : Nat) : Option AVal := if i ∈ l then some (.bool true) else none
theorem damaged_c {j : Nat} {t1 t2 t3 : Tok} {J : Jst} (P : PJ h j d t1 t2 t3 J) (hl : J.nums.length ≤ 1000000) (hn : J.next ≤ 5000) (hb : ∀ x ∈ J.nums, x < 5000) (h1 : 1 ≤ J.next) :
    CV F 25 [.ptr j 0] h (fun v h' => ∃ tk, v = .sl ((damaged J).map intN) tk ∧ Fr (fun _ => False) h h') := by
  refine CV_wp (fn := c25) rfl ?_
  dsimp only [c25]
  have prow := P.row
  have lj := get_lt prow
  obtain ⟨m, hm⟩ : ∃ m, m = h.next := ⟨_, rfl⟩
  replace fx := @prow
  (first | refine go ?_ | exact goC | skip); repeat' (first | refine gP ?_ | exact gPc | refine gN ?_ | exact gNc | (refine gI ?_ ?_ <;> intro hyp <;> first | refine goF ?_ | exact goFc | refine goT ?_ | exact goTc | skip))
  rw [← hm]
  refine w_loop (fun q vs h' => ∃ (k : Nat) (c : Nat) (es : List (Nat × AVal × AVal)) (x1 x2 x3 x4 x5 x6 : AVal), q = J.nums.length - k ∧ k ≤ J.nums.length ∧ vs = [.ptr j 0, .sl [] .nil, .mp m, x1, x2, x3, .sl (J.nums.map intN) t1, .int .i64 (J.nums.length : Int), .int .i64 (k : Int), x4, x5, x6] ∧
      h'.get m = some (.map (.int .i64) c es) ∧ MapIs es 5000 (inF (J.nums.take k)) ∧ Fr (fun i => i = m) h h') J.nums.length
    ⟨0, 0, [], _, _, _, _, _, _, rfl, by omega, rfl, get_push_eq hm, mapIs_nil 5000, (Fr.refl _ _).push _⟩ ?_
  · rintro q vs h1 ⟨k, c, es, x1, x2, x3, x4, x5, x6, rfl, hk, rfl, gm, hM, f1⟩
    by_cases hkl : k < J.nums.length
    · have hlt := hb _ (nth_mem hkl)
      obtain ⟨n, hnn⟩ : ∃ n, n = nth J.nums k := ⟨_, rfl⟩
      have hM' := hM.put (i := n) (by rw [hnn]; exact hlt) (.bool true) c
      have hx : upd (inF (J.nums.take k)) n (some (.bool true)) = inF (J.nums.take (k + 1)) := by
        funext i
        simp only [upd, inF, mem_take_succ _ hkl, ← hnn]
        by_cases e : i = n <;> simp [e]
      rw [hx] at hM'
      have hs := hnn.symm
      have hpl : plain (.bool true) = true := rfl
      replace fx := aI @gm (aI @hs @intN_eq)
      (first | refine go ?_ | exact goC | skip); repeat' (first | refine gP ?_ | exact gPc | refine gN ?_ | exact gNc | (refine gI ?_ ?_ <;> intro hyp <;> first | refine goF ?_ | exact goFc | refine goT ?_ | exact goTc | skip))
      exact lp_n ⟨_, by omega, k + 1, _, _, _, _, _, _, _, _, rfl, by omega, by push_cast; rfl, get_put_old gm, hM', f1.put (.inl rfl) _⟩
    · have e : k = J.nums.length := by omega
      subst e
      rw [List.take_length] at hM
      have prow1 := f1.get prow (show ¬ j = m by omega)
      have hm1 := missing_one J.nums
      replace fx := @prow1
      (first | refine go ?_ | exact goC | skip); repeat' (first | refine gP ?_ | exact gPc | refine gN ?_ | exact gNc | (refine gI ?_ ?_ <;> intro hyp <;> first | refine goF ?_ | exact goFc | refine goT ?_ | exact goTc | skip))
      refine w_loop (fun q vs h' => ∃ (n : Nat) (tk : Tok) (x1 x2 x3 x4 x5 x6 x7 : AVal), q = J.next - n ∧ 1 ≤ n ∧ n ≤ J.next ∧ vs = [.ptr j 0, .sl [] .nil, .mp m, x1, .sl ((missing J.nums n).map intN) tk, .int .i64 (n : Int), x2, x3, x4, x5, x6, x7] ∧
          h'.get m = some (.map (.int .i64) c es) ∧ GrN h' 3 1 (missing J.nums n) tk ∧ (∀ i s, tk = .own i s → h.next < i) ∧ Fr (fun i => i = m) h h') (J.next - 1)
        ⟨1, .nil, _, _, _, _, _, _, _, by omega, by omega, by omega, by rw [hm1]; rfl, gm, by rw [hm1]; exact GrN.nil _ _ _, by simp, f1⟩ ?_
      clear f1 gm prow1
      rintro q vs h1 ⟨n, tk, x1, x2, x3, x4, x5, x6, x7, rfl, hn1, hnx, rfl, gm, G, u1, f1⟩
      have prow1 := f1.get prow (show ¬ j = m by omega)
      by_cases hlt : n < J.next
      · have hms := missing_succ J.nums n hn1
        have hml := missing_len J.nums n
        by_cases hin : n ∈ J.nums
        · obtain ⟨q, hq⟩ := hM.getS (i := n) (v := .bool true) (by simp [inF, hin])
          rw [if_pos hin, List.append_nil] at hms
          have hlk := fun z ok h c => lookM_some hq z ok h c
          replace fx := aI @prow1 (aI @gm @hlk)
          (first | refine go ?_ | exact goC | skip); repeat' (first | refine gP ?_ | exact gPc | refine gN ?_ | exact gNc | (refine gI ?_ ?_ <;> intro hyp <;> first | refine goF ?_ | exact goFc | refine goT ?_ | exact goTc | skip))
          exact lp_n ⟨_, by omega, n + 1, tk, _, _, _, _, _, _, _, rfl, by omega, by omega, by rw [hms]; push_cast; rfl, gm, by rw [hms]; exact G, u1, f1⟩
        · have hq := hM.getN (i := n) (by simp [inF, hin])
          rw [if_neg hin] at hms
          have hlk := fun z ok h c => lookM_none hq z ok h c
          have lb : ∀ H, litA 0 3 1 1 false [.int .i64 0] (some [.int .i64 (n : Int)]) H = some (.sl [intN n] .none, H) := fun H => lit_none rfl rfl rfl rfl
          obtain ⟨h2, e2, n2, k2, o2⟩ := append_N (bytes := 8) (ag := false) (f := intN) (y := .sl ([n].map intN) .none) (ys := [n]) intN_len (fun _ => rfl) (fun _ => rfl) lenA_sl (elems_sl intN_len) G (by simp; omega) (by omega) (by omega) (by omega) (by simp)
          simp only [List.map_cons, List.map_nil] at e2
          rw [← hms] at e2
          replace fx := aI @prow1 (aI @gm (aI @hlk (aI @lb @e2)))
          (first | refine go ?_ | exact goC | skip); repeat' (first | refine gP ?_ | exact gPc | refine gN ?_ | exact gNc | (refine gI ?_ ?_ <;> intro hyp <;> first | refine goF ?_ | exact goFc | refine goT ?_ | exact goTc | skip))
          have hf1 := f1.1
          have hlm := get_lt gm
          refine lp_n ⟨_, by omega, n + 1, _, _, _, _, _, _, _, _, rfl, by omega, by omega, by push_cast; rfl, (o2 m hlm (G.ne gm (by simp))).trans gm, .inr ⟨_, rfl, k2⟩, fun i s e => ?_, ⟨by omega, fun i hi hne => ?_⟩⟩
          · simp only [Tok.own.injEq] at e; omega
          · rw [o2 i (by omega) (fun i' s e e' => by have := u1 _ _ e; omega)]; exact f1.2 i hi hne
      · have e : n = J.next := by omega
        subst e
        replace fx := @prow1
        (first | refine go ?_ | exact goC | skip); repeat' (first | refine gP ?_ | exact gPc | refine gN ?_ | exact gNc | (refine gI ?_ ?_ <;> intro hyp <;> first | refine goF ?_ | exact goFc | refine goT ?_ | exact goTc | skip))
        refine ⟨tk, rfl, f1.1, fun i hi _ => f1.2 i hi (by omega)⟩
end Go.Proofs.YtjofjgflcogklaaDoor

namespace Go.Proofs.YtjofjgflcogklaaDoor
open Go Go.Abs Go.Sha Go.Jn
variable {h : Heap} {d b p w : Nat} {D : Dsk}
def wrAll (D : Dsk) (at0 : Nat) : List Bs → Int × Dsk
  | [] => (0, D)
  | s :: l => if (D.write (at0 : Int) s).1 = 0 then wrAll (D.write (at0 : Int) s).2 (at0 + 1) l else D.write (at0 : Int) s
def rdAll (D : Dsk) (at0 : Nat) : List Bs → Bool → Int × Bool
  | [], r => (0, r)
  | s :: l, r => if (D.read (at0 : Int)).2 = 0 then rdAll D (at0 + 1) l (r && decide (s = (D.read (at0 : Int)).1)) else ((D.read (at0 : Int)).2, false)
def writeJ (D : Dsk) (at0 : Nat) (l : List Bs) : (Int × Bool) × Dsk :=
  if (wrAll D at0 l).1 = 0 then (if (wrAll D at0 l).2.flush.1 = 0 then (rdAll (wrAll D at0 l).2.flush.2 at0 l true, (wrAll D at0 l).2.flush.2) else (((wrAll D at0 l).2.flush.1, false), (wrAll D at0 l).2.flush.2)) else (((wrAll D at0 l).1, false), (wrAll D at0 l).2)
theorem write_slen (D : Dsk) (i : Int) (s : Bs) : (D.write i s).2.s.length = D.s.length := by
  unfold Dsk.write
  split
  · rfl
  · split
    · rfl
    · split
      · split
        · rfl
        · simp
      · rfl
theorem flush_slen (D : Dsk) : D.flush.2.s.length = D.s.length := by
  unfold Dsk.flush
  split
  · rfl
  · split
    · rfl
    · simp [mountS_len]
theorem wrAll_slen (D : Dsk) (a : Nat) (l : List Bs) : (wrAll D a l).2.s.length = D.s.length := by
  induction l generalizing D a with
  | nil => rfl
  | cons s l ih =>
    unfold wrAll
    split
    · rw [ih, write_slen]
    · exact write_slen _ _ _
theorem writeJ_slen (D : Dsk) (a : Nat) (l : List Bs) : (writeJ D a l).2.s.length = D.s.length := by
  unfold writeJ
  split
  · split
    · rw [flush_slen, wrAll_slen]
    · rw [flush_slen, wrAll_slen]
  · exact wrAll_slen _ _ _
theorem wrAll_drop {D : Dsk} {a k : Nat} {l : List Bs} (hk : k < l.length) : wrAll D a (l.drop k) = if (D.write (a : Int) (nth l k)).1 = 0 then wrAll (D.write (a : Int) (nth l k)).2 (a + 1) (l.drop (k + 1)) else D.write (a : Int) (nth l k) := by
  rw [List.drop_eq_getElem_cons hk, nth_eq hk, wrAll]
theorem rdAll_drop {D : Dsk} {a k : Nat} {l : List Bs} {r : Bool} (hk : k < l.length) : rdAll D a (l.drop k) r = if (D.read (a : Int)).2 = 0 then rdAll D (a + 1) (l.drop (k + 1)) (r && decide (nth l k = (D.read (a : Int)).1)) else ((D.read (a : Int)).2, false) := by
  rw [List.drop_eq_getElem_cons hk, nth_eq hk, rdAll]
theorem write_err (D : Dsk) (i : Int) (s : Bs) : (D.write i s).1 = 0 ∨ (D.write i s).1 = 1 ∨ (D.write i s).1 = 21 := by
  unfold Dsk.write
  split
  · simp
  · split
    · simp
    · split
      · split <;> simp
      · simp
theorem jwrite_c {j : Nat} {t1 t2 t3 : Tok} {J : Jst} (P : PJ h j d t1 t2 t3 J) (Q : PD h d b p w D) (sep : ¬ PS d b p w j) (at0 : Nat) (hat : at0 ≤ 1000000) (l : List Bs) (hl : l.length ≤ 1000000) (hs : ∀ s ∈ l, s.length ≤ 1000000) :
    CV F 36 [.ptr j 0, .int .i64 (at0 : Int), .sl (l.map strV) .none] h (fun v h' => v = .tup [.int .i64 (writeJ D at0 l).1.1, .bool (writeJ D at0 l).1.2] ∧ PD h' d b p w (writeJ D at0 l).2 ∧ Fr (PS d b p w) h h') := by
  refine CV_wp (fn := c36) rfl ?_
  dsimp only [c36]
  have prow := P.row
  have hE : writeJ D at0 l = writeJ D at0 l := rfl
  replace fx := Dum_eq
  (first | refine go ?_ | exact goC | skip); repeat' (first | refine gP ?_ | exact gPc | refine gN ?_ | exact gNc | (refine gI ?_ ?_ <;> intro hyp <;> first | refine goF ?_ | exact goFc | refine goT ?_ | exact goTc | skip))
  refine w_loop (fun q vs h' => ∃ (k : Nat) (E : Dsk) (x1 x2 x3 x4 x5 x6 x7 x8 x9 x10 x11 x12 x13 x14 x15 x16 x17 x18 : AVal), q = l.length - k ∧ k ≤ l.length ∧ vs = [.ptr j 0, .int .i64 (at0 : Int), .sl (l.map strV) .none, x1, x2, x3, x4, x5, x6, x7, x8, x9, x10, x11, .sl (l.map strV) .none, .int .i64 (l.length : Int), .int .i64 (k : Int), x12, x13, x14, x15, x16, x17, x18, .tup []] ∧
      wrAll D at0 l = wrAll E (at0 + k) (l.drop k) ∧ PD h' d b p w E ∧ Fr (PS d b p w) h h') l.length
    ⟨0, D, _, _, _, _, _, _, _, _, _, _, _, _, _, _, _, _, _, _, rfl, by omega, rfl, rfl, Q, Fr.refl _ _⟩ ?_
  rintro q vs h1 ⟨k, E, x1, x2, x3, x4, x5, x6, x7, x8, x9, x10, x11, x12, x13, x14, x15, x16, x17, x18, rfl, hk, rfl, hw, Q1, f1⟩
  have prow1 := f1.get prow sep
  by_cases hkl : k < l.length
  · have hsk := hs _ (nth_mem hkl)
    have hd := wrAll_drop (D := E) (a := at0 + k) hkl
    have ec : (at0 : Int) + (k : Int) = ((at0 + k : Nat) : Int) := (Int.natCast_add _ _).symm
    replace fx := aI @prow1 @strV_eq
    (first | refine go ?_ | exact goC | skip); repeat' (first | refine gP ?_ | exact gPc | refine gN ?_ | exact gNc | (refine gI ?_ ?_ <;> intro hyp <;> first | refine goF ?_ | exact goFc | refine goT ?_ | exact goTc | skip))
    rw [ec]
    refine CV_mono (write_c Q1 _ _ (by omega)) ?_
    rintro v h2 ⟨rfl, Q2, f2⟩
    have f12 := f1.trans f2
    by_cases hz : (E.write ((at0 + k : Nat) : Int) (nth l k)).1 = 0
    · rw [if_pos hz] at hd
      replace fx := @hz
      (first | refine go ?_ | exact goC | skip); repeat' (first | refine gP ?_ | exact gPc | refine gN ?_ | exact gNc | (refine gI ?_ ?_ <;> intro hyp <;> first | refine goF ?_ | exact goFc | refine goT ?_ | exact goTc | skip))
      exact lp_n ⟨_, by omega, k + 1, _, _, _, _, _, _, _, _, _, _, _, _, _, _, _, _, _, _, _, rfl, by omega, by push_cast; rfl, by rw [hw, hd]; rfl, Q2, f12⟩
    · rw [if_neg hz] at hd
      have e1 : writeJ D at0 l = (((E.write ((at0 + k : Nat) : Int) (nth l k)).1, false), (E.write ((at0 + k : Nat) : Int) (nth l k)).2) := by
        unfold writeJ; rw [hw, hd, if_neg hz]
      replace fx := @hz
      (first | refine go ?_ | exact goC | skip); repeat' (first | refine gP ?_ | exact gPc | refine gN ?_ | exact gNc | (refine gI ?_ ?_ <;> intro hyp <;> first | refine goF ?_ | exact goFc | refine goT ?_ | exact goTc | skip))
      rw [e1]
      exact ⟨rfl, Q2, f12⟩
  · have e : k = l.length := by omega
    subst e
    have hwd : wrAll D at0 l = (0, E) := by rw [hw, List.drop_eq_nil_of_le (by omega)]; rfl
    replace fx := @prow1
    (first | refine go ?_ | exact goC | skip); repeat' (first | refine gP ?_ | exact gPc | refine gN ?_ | exact gNc | (refine gI ?_ ?_ <;> intro hyp <;> first | refine goF ?_ | exact goFc | refine goT ?_ | exact goTc | skip))
    refine CV_mono (flush_c Q1) ?_
    rintro v h2 ⟨rfl, Q2, f2⟩
    have f12 := f1.trans f2
    have prow2 := f12.get prow sep
    by_cases hz : E.flush.1 = 0
    · have e1 : writeJ D at0 l = (rdAll E.flush.2 at0 l true, E.flush.2) := by
        unfold writeJ; rw [hwd, if_pos rfl, if_pos hz]
      obtain ⟨G, hG⟩ : ∃ G, G = E.flush.2 := ⟨_, rfl⟩
      rw [← hG] at e1 Q2
      replace fx := @hz
      (first | refine go ?_ | exact goC | skip); repeat' (first | refine gP ?_ | exact gPc | refine gN ?_ | exact gNc | (refine gI ?_ ?_ <;> intro hyp <;> first | refine goF ?_ | exact goFc | refine goT ?_ | exact goTc | skip))
      refine w_loop (fun q vs h' => ∃ (k : Nat) (r : Bool) (x1 x2 x3 x4 x5 x6 x7 x8 x9 x10 x11 x12 x13 x14 x15 x16 x17 x18 : AVal), q = l.length - k ∧ k ≤ l.length ∧ vs = [.ptr j 0, .int .i64 (at0 : Int), .sl (l.map strV) .none, x1, x2, x3, x4, x5, x6, .bool r, x7, x8, x9, x10, x11, x12, x13, x14, x15, x16, .sl (l.map strV) .none, .int .i64 (l.length : Int), .int .i64 (k : Int), x17, x18] ∧
          rdAll G at0 l true = rdAll G (at0 + k) (l.drop k) r ∧ PD h' d b p w G ∧ Fr (PS d b p w) h h') l.length
        ⟨0, true, _, _, _, _, _, _, _, _, _, _, _, _, _, _, _, _, _, _, rfl, by omega, rfl, rfl, Q2, f12⟩ ?_
      clear prow1 f1 f2 Q1 Q2 f12 prow2
      rintro q vs h3 ⟨k, r, x1, x2, x3, x4, x5, x6, x7, x8, x9, x10, x11, x12, x13, x14, x15, x16, x17, x18, rfl, hk, rfl, hw, Q1, f1⟩
      have prow1 := f1.get prow sep
      by_cases hkl : k < l.length
      · have hd := rdAll_drop (D := G) (a := at0 + k) (r := r) hkl
        have ec : (at0 : Int) + (k : Int) = ((at0 + k : Nat) : Int) := (Int.natCast_add _ _).symm
        replace fx := aI @prow1 @strV_eq
        (first | refine go ?_ | exact goC | skip); repeat' (first | refine gP ?_ | exact gPc | refine gN ?_ | exact gNc | (refine gI ?_ ?_ <;> intro hyp <;> first | refine goF ?_ | exact goFc | refine goT ?_ | exact goTc | skip))
        rw [ec]
        refine CV_mono (read_c Q1 _) ?_
        rintro v h4 ⟨rfl, Q2, f2⟩
        have f12 := f1.trans (f2.mono (fun _ _ q => q.elim))
        by_cases hz : (G.read ((at0 + k : Nat) : Int)).2 = 0
        · rw [if_pos hz] at hd
          cases r with
          | true =>
            rw [Bool.true_and] at hd
            replace fx := @hz
            (first | refine go ?_ | exact goC | skip); repeat' (first | refine gP ?_ | exact gPc | refine gN ?_ | exact gNc | (refine gI ?_ ?_ <;> intro hyp <;> first | refine goF ?_ | exact goFc | refine goT ?_ | exact goTc | skip))
            exact lp_n ⟨_, by omega, k + 1, _, _, _, _, _, _, _, _, _, _, _, _, _, _, _, _, _, _, _, rfl, by omega, by push_cast; rfl, by rw [hw, hd]; rfl, Q2, f12⟩
          | false =>
            rw [Bool.false_and] at hd
            replace fx := @hz
            (first | refine go ?_ | exact goC | skip); repeat' (first | refine gP ?_ | exact gPc | refine gN ?_ | exact gNc | (refine gI ?_ ?_ <;> intro hyp <;> first | refine goF ?_ | exact goFc | refine goT ?_ | exact goTc | skip))
            exact lp_n ⟨_, by omega, k + 1, _, _, _, _, _, _, _, _, _, _, _, _, _, _, _, _, _, _, _, rfl, by omega, by push_cast; rfl, by rw [hw, hd]; rfl, Q2, f12⟩
        · rw [if_neg hz] at hd
          rw [hw, hd] at e1
          replace fx := @hz
          (first | refine go ?_ | exact goC | skip); repeat' (first | refine gP ?_ | exact gPc | refine gN ?_ | exact gNc | (refine gI ?_ ?_ <;> intro hyp <;> first | refine goF ?_ | exact goFc | refine goT ?_ | exact goTc | skip))
          rw [e1]
          exact ⟨rfl, Q2, f12⟩
      · have e : k = l.length := by omega
        subst e
        rw [List.drop_eq_nil_of_le (by omega)] at hw
        rw [hw] at e1
        replace fx := Dum_eq
        (first | refine go ?_ | exact goC | skip); repeat' (first | refine gP ?_ | exact gPc | refine gN ?_ | exact gNc | (refine gI ?_ ?_ <;> intro hyp <;> first | refine goF ?_ | exact goFc | refine goT ?_ | exact goTc | skip))
        rw [e1]
        exact ⟨rfl, Q1, f1⟩
    · have e1 : writeJ D at0 l = ((E.flush.1, false), E.flush.2) := by
        unfold writeJ; rw [hwd, if_pos rfl, if_neg hz]
      replace fx := @hz
      (first | refine go ?_ | exact goC | skip); repeat' (first | refine gP ?_ | exact gPc | refine gN ?_ | exact gNc | (refine gI ?_ ?_ <;> intro hyp <;> first | refine goF ?_ | exact goFc | refine goT ?_ | exact goTc | skip))
      rw [e1]
      exact ⟨rfl, Q2, f12⟩
def appendJ (J : Jst) (D : Dsk) (t : Bs) : (Int × Int) × (Jst × Dsk) :=
  if J.closed then ((0, 21), (J, D)) else if 8000 < t.length ∨ 4096 < J.next then ((0, 4), (J, D)) else if (D.s.length : Int) - (J.fin : Int) < (count t.length : Int) then ((0, 20), (J, D)) else
  if (writeJ D J.fin (pack J.next t)).1.1 = 0 then
    (if (writeJ D J.fin (pack J.next t)).1.2 then (((J.next : Int), 0), ({ J with recs := J.recs ++ [(J.next, t)], next := J.next + 1, fin := J.fin + count t.length }, (writeJ D J.fin (pack J.next t)).2))
      else ((0, 22), ({ J with next := J.next + 1, fin := J.fin + count t.length }, (writeJ D J.fin (pack J.next t)).2)))
  else ((0, (writeJ D J.fin (pack J.next t)).1.1), ({ J with next := J.next + 1, fin := J.fin + count t.length, closed := true }, (writeJ D J.fin (pack J.next t)).2))
theorem appendJ_go {J : Jst} {D : Dsk} {t : Bs} (hc : J.closed = false) (h2 : ¬ (8000 < t.length ∨ 4096 < J.next)) (h3 : ¬ (D.s.length : Int) - (J.fin : Int) < (count t.length : Int)) : appendJ J D t =
  if (writeJ D J.fin (pack J.next t)).1.1 = 0 then
    (if (writeJ D J.fin (pack J.next t)).1.2 then (((J.next : Int), 0), ({ J with recs := J.recs ++ [(J.next, t)], next := J.next + 1, fin := J.fin + count t.length }, (writeJ D J.fin (pack J.next t)).2))
      else ((0, 22), ({ J with next := J.next + 1, fin := J.fin + count t.length }, (writeJ D J.fin (pack J.next t)).2)))
  else ((0, (writeJ D J.fin (pack J.next t)).1.1), ({ J with next := J.next + 1, fin := J.fin + count t.length, closed := true }, (writeJ D J.fin (pack J.next t)).2)) := by
  unfold appendJ; rw [if_neg (by simp [hc]), if_neg h2, if_neg h3]
structure JOk (J : Jst) (n : Nat) : Prop where
  n1 : 1 ≤ J.next
  n2 : J.next ≤ 4097
  fin : J.fin ≤ n
  recs : J.recs.length ≤ n + J.next
  bad : J.bad.length ≤ n
  nums : ∀ x ∈ J.nums, x ≤ 4096
theorem JOk.nl {J : Jst} {n : Nat} (h : JOk J n) : J.nums.length ≤ n + J.next := by have := h.recs; simpa [Jst.nums] using this
theorem JOk.tl {J : Jst} {n : Nat} (h : JOk J n) : J.texts.length ≤ n + J.next := by have := h.recs; simpa [Jst.texts] using this
theorem appendJ_ok {J : Jst} {D : Dsk} {t : Bs} (h : JOk J D.s.length) : JOk (appendJ J D t).2.1 D.s.length ∧ (appendJ J D t).2.2.s.length = D.s.length := by
  unfold appendJ
  obtain ⟨h1, h2, h3, h4, h5, h6⟩ := h
  split
  · exact ⟨⟨h1, h2, h3, h4, h5, h6⟩, rfl⟩
  · split
    · exact ⟨⟨h1, h2, h3, h4, h5, h6⟩, rfl⟩
    · split
      · exact ⟨⟨h1, h2, h3, h4, h5, h6⟩, rfl⟩
      · rename_i q1 q2 q3
        split
        · split
          · refine ⟨⟨by simp, by simp; omega, by simp; omega, by simp; omega, h5, ?_⟩, writeJ_slen _ _ _⟩
            intro x hx
            simp only [Jst.nums, List.map_append, List.mem_append, List.map_cons, List.map_nil, List.mem_singleton] at hx
            rcases hx with hx | hx
            · exact h6 x hx
            · omega
          · exact ⟨⟨by simp, by simp; omega, by simp; omega, by simp; omega, h5, h6⟩, writeJ_slen _ _ _⟩
        · exact ⟨⟨by simp, by simp; omega, by simp; omega, by simp; omega, h5, h6⟩, writeJ_slen _ _ _⟩
theorem openJ_ok (l : List Bs) : JOk (openJ l) l.length := by
  obtain ⟨q1, q2, q3, q4, q5⟩ := heads_next l l.length
  have key : ∀ (n : Nat) (ps : List (Option Prt)) (R : List (Nat × Bs)), ps.length ≤ n → (∀ o ∈ ps, POk o) → (∀ x ∈ R, x.1 ≤ 4096) → (scanS ps 0 R).length ≤ R.length + ps.length ∧ ∀ x ∈ scanS ps 0 R, x.1 ≤ 4096 := by
    intro n
    induction n with
    | zero =>
      intro ps R hl hp hR
      obtain rfl : ps = [] := List.length_eq_zero_iff.1 (by omega)
      exact ⟨by simp [scanS], hR⟩
    | succ n ih =>
      intro ps R hl hp hR
      by_cases hne : ps = []
      · subst hne; exact ⟨by simp [scanS], hR⟩
      · have hpos : 1 ≤ ps.length := by
          cases ps with
          | nil => exact absurd rfl hne
          | cons a b => simp
        cases hr : record ps with
        | none =>
          rw [scanS_none hne hr]
          obtain ⟨i1, i2⟩ := ih (ps.drop 1) R (by rw [List.length_drop]; omega) (fun o ho => hp o (List.mem_of_mem_drop ho)) hR
          rw [List.length_drop] at i1
          exact ⟨by omega, i2⟩
        | some x =>
          obtain ⟨nm, c, tx⟩ := x
          have hr' : record (ps.drop 0) = some (nm, c, tx) := hr
          obtain ⟨c1, c2, c3, pr, hp1, hp2⟩ := record_facts hp hr'
          rw [scanS_some hr c1]
          have hnm : nm ≤ 4096 := by
            have := hp (nth ps 0) (nth_mem hpos) pr hp1
            omega
          have hA : (addRec R nm tx).length ≤ R.length + 1 ∧ ∀ x ∈ addRec R nm tx, x.1 ≤ 4096 := by
            unfold addRec
            split
            · exact ⟨by omega, hR⟩
            · refine ⟨by simp, fun x hx => ?_⟩
              rcases List.mem_append.1 hx with hx | hx
              · exact hR x hx
              · simp at hx; subst hx; exact hnm
          obtain ⟨i1, i2⟩ := ih (ps.drop c) (addRec R nm tx) (by rw [List.length_drop]; omega) (fun o ho => hp o (List.mem_of_mem_drop ho)) hA.2
          rw [List.length_drop] at i1
          exact ⟨by omega, i2⟩
  obtain ⟨k1, k2⟩ := key _ (l.map unpack) [] (Nat.le_refl _) (fun o ho => by obtain ⟨s, _, rfl⟩ := List.mem_map.1 ho; exact unpack_ok s) (by simp)
  refine ⟨q1, q2, q3, ?_, (heads_bad l l.length).1, ?_⟩
  · show (scanS (l.map unpack) 0 []).length ≤ l.length + (heads l l.length).next
    simp at k1; omega
  · intro x hx
    simp only [Jst.nums, openJ, List.mem_map] at hx
    obtain ⟨y, hy, rfl⟩ := hx
    exact k2 y hy
theorem fr_j (h : Heap) (j : Nat) (o : Option Abs.Obj) : Fr (fun i => i = j) h (h.put j o) := ⟨Nat.le_of_eq (put_next _ _ _).symm, fun i hi hn => get_put_ne hn⟩
theorem appended_c {j : Nat} {t1 t2 t3 : Tok} {J : Jst} (P : PJ h j d t1 t2 t3 J) (Q : PD h d b p w D) (sep : ∀ i, JS j t1 t2 t3 i → ¬ PS d b p w i) (ok : JOk J D.s.length) (t : Bs) (ht : t.length ≤ 1000000) :
    CV F 16 [.ptr j 0, .str t] h (fun v h' => v = .tup [.int .i64 (appendJ J D t).1.1, .int .i64 (appendJ J D t).1.2] ∧ PD h' d b p w (appendJ J D t).2.2 ∧ Fr (fun i => JS j t1 t2 t3 i ∨ PS d b p w i) h h' ∧
      ∃ t1' t3', PJ h' j d t1' t2 t3' (appendJ J D t).2.1 ∧ ∀ i, JS j t1' t2 t3' i → JS j t1 t2 t3 i ∨ h.next ≤ i) := by
  refine CV_wp (fn := c16) rfl ?_
  dsimp only [c16]
  have prow := P.row
  have hl := Q.ok.len
  obtain ⟨k1, k2, k3, k4, k5, k6⟩ := ok
  cases hc : J.closed with
  | true =>
    have e : appendJ J D t = ((0, 21), (J, D)) := by unfold appendJ; rw [if_pos hc]
    rw [hc] at prow
    replace fx := @prow
    (first | refine go ?_ | exact goC | skip); repeat' (first | refine gP ?_ | exact gPc | refine gN ?_ | exact gNc | (refine gI ?_ ?_ <;> intro hyp <;> first | refine goF ?_ | exact goFc | refine goT ?_ | exact goTc | skip))
    rw [e]
    exact ⟨rfl, Q, Fr.refl _ _, t1, t3, P, fun i q => .inl q⟩
  | false =>
    by_cases h2 : 8000 < t.length ∨ 4096 < J.next
    · have e : appendJ J D t = ((0, 4), (J, D)) := by unfold appendJ; rw [if_neg (by simp [hc]), if_pos h2]
      rw [hc] at prow
      replace fx := @prow
      (first | refine go ?_ | exact goC | skip); repeat' (first | refine gP ?_ | exact gPc | refine gN ?_ | exact gNc | (refine gI ?_ ?_ <;> intro hyp <;> first | refine goF ?_ | exact goFc | refine goT ?_ | exact goTc | skip))
      all_goals
        rw [e]
        exact ⟨rfl, Q, Fr.refl _ _, t1, t3, P, fun i q => .inl q⟩
    · have hct := count_v t.length
      have hrm := cv_rw (room_c P Q k3)
      by_cases h3 : (D.s.length : Int) - (J.fin : Int) < (count t.length : Int)
      · have e : appendJ J D t = ((0, 20), (J, D)) := by unfold appendJ; rw [if_neg (by simp [hc]), if_neg h2, if_pos h3]
        rw [hc] at prow
        replace fx := aI @prow (aI @hct @hrm)
        (first | refine go ?_ | exact goC | skip); repeat' (first | refine gP ?_ | exact gPc | refine gN ?_ | exact gNc | (refine gI ?_ ?_ <;> intro hyp <;> first | refine goF ?_ | exact goFc | refine goT ?_ | exact goTc | skip))
        rw [e]
        exact ⟨rfl, Q, Fr.refl _ _, t1, t3, P, fun i q => .inl q⟩
      · have e0 := appendJ_go hc h2 h3
        have hpk := pack_v J.next t (by omega)
        have hpv : packV J.next t = .tup [.sl ((pack J.next t).map AVal.str) .none, .int .i64 0] := by unfold packV; rw [if_neg (by omega), if_neg (by omega), Int.toNat_natCast]
        rw [hpv] at hpk
        have hpl := pack_len J.next t
        rw [hc] at prow
        replace fx := aI @prow (aI @hct (aI @hrm @hpk))
        (first | refine go ?_ | exact goC | skip); repeat' (first | refine gP ?_ | exact gPc | refine gN ?_ | exact gNc | (refine gI ?_ ?_ <;> intro hyp <;> first | refine goF ?_ | exact goFc | refine goT ?_ | exact goTc | skip))
        have hmp : (pack J.next t).map AVal.str = (pack J.next t).map strV := rfl
        obtain ⟨J1, hJ1⟩ : ∃ J1 : Jst, J1 = { J with next := J.next + 1, fin := J.fin + count t.length } := ⟨_, rfl⟩
        have jn1 : J1.next = J.next + 1 := by rw [hJ1]
        have jf1 : J1.fin = J.fin + count t.length := by rw [hJ1]
        have jc1 : J1.closed = false := by rw [hJ1]; exact hc
        have jr1 : J1.recs = J.recs := by rw [hJ1]
        have jb1 : J1.bad = J.bad := by rw [hJ1]
        have jN1 : J1.nums = J.nums := by rw [Jst.nums, jr1]; rfl
        have jT1 : J1.texts = J.texts := by rw [Jst.texts, jr1]; rfl
        obtain ⟨g1, g2, g3, gne⟩ := P.tk
        obtain ⟨hA, hhA⟩ : ∃ hA, hA = (h.put j (some (.row true 0 true [.ptr d 0, .sl (J.nums.map intN) t1, .sl (J.bad.map intN) t2, .sl (J.texts.map strV) t3, .int .i64 ((J.next : Int) + 1), .int .i64 (J.fin : Int), .bool false]))).put j (some (.row true 0 true [.ptr d 0, .sl (J.nums.map intN) t1, .sl (J.bad.map intN) t2, .sl (J.texts.map strV) t3, .int .i64 ((J.next : Int) + 1), .int .i64 ((J.fin : Int) + ((pack J.next t).length : Int)), .bool false])) := ⟨_, rfl⟩
        have fA : Fr (fun i => i = j) h hA := by rw [hhA]; exact (fr_j _ _ _).trans (fr_j _ _ _)
        have rowA : hA.get j = some (.row true 0 true [.ptr d 0, .sl (J1.nums.map intN) t1, .sl (J1.bad.map intN) t2, .sl (J1.texts.map strV) t3, .int .i64 (J1.next : Int), .int .i64 (J1.fin : Int), .bool J1.closed]) := by
          rw [hhA, get_put_old (get_put_old prow), jn1, jf1, jc1, jb1, jN1, jT1, hpl, Int.natCast_add, Int.natCast_add]; rfl
        have ntj : ∀ i, TS t1 t2 t3 i → i ≠ j := by
          rintro i (⟨s, e⟩ | ⟨s, e⟩ | ⟨s, e⟩) rfl
          · exact g1.ne prow (by simp) _ _ e rfl
          · exact g2.ne prow (by simp) _ _ e rfl
          · exact g3.ne prow (by simp) _ _ e rfl
        have TA : JT hA t1 t2 t3 J1 := by
          have := P.tk.fr fA (fun i q e => ntj i q e)
          exact ⟨by rw [jN1]; exact this.g1, by rw [jb1]; exact this.g2, by rw [jT1]; exact this.g3, gne⟩
        have PA : PJ hA j d t1 t2 t3 J1 := ⟨rowA, TA⟩
        have QA := Q.fr fA (fun i hi e => sep i (.inl e) hi)
        rw [hmp, ← hhA]
        refine CV_mono (jwrite_c PA QA (sep j (.inl rfl)) J.fin (by omega) (pack J.next t) (by rw [hpl]; have := count_le t.length; omega) ?_) ?_
        · intro s hs
          simp only [pack, List.mem_map] at hs
          obtain ⟨k, _, rfl⟩ := hs
          rw [sector_len]; omega
        rintro v h2 ⟨rfl, Q2, f2⟩
        obtain ⟨W, hW⟩ : ∃ W, W = writeJ D J.fin (pack J.next t) := ⟨_, rfl⟩
        rw [← hJ1, ← hW] at e0
        rw [← hW] at Q2 ⊢
        have P2 := PA.fr f2 sep
        obtain ⟨row2, T2⟩ := P2
        have F2 : Fr (fun i => JS j t1 t2 t3 i ∨ PS d b p w i) h h2 := (fA.mono (fun i _ e => .inl (.inl e))).trans (f2.mono (fun i _ e => .inr e))
        have lj2 := get_lt row2
        have nA : hA.next = h.next := by rw [hhA, put_next, put_next]
        by_cases hz : W.1.1 = 0
        · rw [if_pos hz] at e0
          cases hw2 : W.1.2 with
          | true =>
            rw [if_pos hw2] at e0
            obtain ⟨J2, hJ2⟩ : ∃ J2 : Jst, J2 = { J with recs := J.recs ++ [(J.next, t)], next := J.next + 1, fin := J.fin + count t.length } := ⟨_, rfl⟩
            rw [← hJ2] at e0
            have jN2 : J2.nums = J1.nums ++ [J.next] := by rw [jN1, hJ2]; simp [Jst.nums]
            have jT2 : J2.texts = J1.texts ++ [t] := by rw [jT1, hJ2]; simp [Jst.texts]
            have jb2 : J2.bad = J1.bad := by rw [hJ2, jb1]
            have jo2 : J2.next = J1.next ∧ J2.fin = J1.fin ∧ J2.closed = J1.closed := by rw [hJ2, hJ1]; exact ⟨rfl, rfl, rfl⟩
            obtain ⟨b1, b2, b3, bne⟩ := T2
            have lb : ∀ H, litA 0 3 1 1 false [.int .i64 0] (some [.int .i64 (J.next : Int)]) H = some (.sl [intN J.next] .none, H) := fun H => lit_none rfl rfl rfl rfl
            have ls : ∀ H, litA 0 9 1 1 false [.str []] (some [.str t]) H = some (.sl [strV t] .none, H) := fun H => lit_none rfl rfl rfl rfl
            have ln : J1.nums.length ≤ 10000 := by rw [jN1]; simp only [Jst.nums, List.length_map]; omega
            have lt : J1.texts.length ≤ 10000 := by rw [jT1]; simp only [Jst.texts, List.length_map]; omega
            obtain ⟨h3, e2, n2, m2, o2⟩ := append_N (bytes := 8) (ag := false) (f := intN) (y := .sl ([J.next].map intN) .none) (ys := [J.next]) intN_len (fun _ => rfl) (fun _ => rfl) lenA_sl (elems_sl intN_len) b1 (by simp; omega) (by omega) (by omega) (by omega) (by simp)
            simp only [List.map_cons, List.map_nil] at e2
            have row3 := (o2 j lj2 (b1.ne row2 (by simp))).trans row2
            have b3' : GrN h3 9 1 J1.texts t3 := b3.keep fun i hg _ => (o2 i (get_lt hg) (b1.ne hg (by simp))).trans hg
            obtain ⟨h4, e3, n3, m3, o3⟩ := append_N (bytes := 16) (ag := false) (f := strV) (y := .sl ([t].map strV) .none) (ys := [t]) strV_len (fun _ => rfl) (fun _ => rfl) lenA_sl (elems_sl strV_len) b3' (by simp; omega) (by omega) (by omega) (by omega) (by simp)
            simp only [List.map_cons, List.map_nil] at e3
            have row4 := (o3 j (by omega) (b3'.ne row3 (by simp))).trans row3
            have pp : ∀ x y, ((h4.put j (some x)).put j y).get j = y := fun x y => get_put_old (get_put_old row4)
            have kk : h4.get h2.next = some (.tok 3) := (o3 _ (by omega) (b3'.ne m2 (by simp))).trans m2
            have hgo : ∀ (x y : Option Abs.Obj) i, i < h2.next → ¬ (i = j ∨ (∃ s, t1 = .own i s) ∨ ∃ s, t3 = .own i s) → ((h4.put j x).put j y).get i = h2.get i := fun x y i q1 q2 => by
              have q3 : i ≠ j := fun e => q2 (.inl e)
              rw [get_put_ne q3, get_put_ne q3, o3 i (by omega) (fun i' s' e => by rintro rfl; exact q2 (.inr (.inr ⟨_, e⟩))), o2 i q1 (fun i' s' e => by rintro rfl; exact q2 (.inr (.inl ⟨_, e⟩)))]
            have hn2 := F2.1
            replace fx := aI @hz (aI @hw2 (aI @row2 (aI @lb (aI @ls (aI @e2 (aI @row3 (aI @e3 (aI @row4 @pp))))))))
            (first | refine go ?_ | exact goC | skip); repeat' (first | refine gP ?_ | exact gPc | refine gN ?_ | exact gNc | (refine gI ?_ ?_ <;> intro hyp <;> first | refine goF ?_ | exact goFc | refine goT ?_ | exact goTc | skip))
            rw [e0]
            have FF : ∀ (x y : Option Abs.Obj), Fr (JS j t1 t2 t3) h2 ((h4.put j x).put j y) := fun x y => ⟨by rw [put_next, put_next]; omega, fun i q1 q2 => hgo x y i q1 (by
              rintro (e | e | e)
              · exact q2 (.inl e)
              · exact q2 (.inr (.inl e))
              · exact q2 (.inr (.inr (.inr e))))⟩
            refine ⟨rfl, Q2.fr (FF _ _) (fun i hi e => sep i e hi), F2.trans ((FF _ _).mono (fun i _ e => .inl e)), .own h2.next 1, .own h3.next 1, ⟨?_, ?_, ?_, ?_, ?_⟩, ?_⟩
            · show _ = some (Obj.row true 0 true [.ptr d 0, .sl (J2.nums.map intN) (.own h2.next 1), .sl (J2.bad.map intN) t2, .sl (J2.texts.map strV) (.own h3.next 1), .int .i64 (J2.next : Int), .int .i64 (J2.fin : Int), .bool J2.closed])
              rw [jN2, jT2, jb2, jo2.1, jo2.2.1, jo2.2.2]
              exact pp _ _
            · exact .inr ⟨_, rfl, by rw [get_put_ne (by omega), get_put_ne (by omega)]; exact kk⟩
            · show GrN _ _ _ J2.bad t2
              rw [jb2]
              refine b2.keep fun i hg ⟨s, e⟩ => (hgo _ _ i (get_lt hg) ?_).trans hg
              rintro (rfl | ⟨s', e'⟩ | ⟨s', e'⟩)
              · rw [row2] at hg; simp at hg
              · exact bne _ _ _ e' e
              · exact b3.ne hg (by simp) _ _ e' rfl
            · exact .inr ⟨_, rfl, by rw [get_put_ne (by omega), get_put_ne (by omega)]; exact m3⟩
            · intro i s s' e e'
              simp only [Tok.own.injEq] at e
              have := b2.lt e'
              omega
            · rintro i (rfl | ⟨s, e⟩ | ⟨s, e⟩ | ⟨s, e⟩)
              · exact .inl (.inl rfl)
              · simp only [Tok.own.injEq] at e; right; omega
              · exact .inl (.inr (.inr (.inl ⟨s, e⟩)))
              · simp only [Tok.own.injEq] at e; right; omega
          | false =>
            rw [if_neg (by simp [hw2])] at e0
            replace fx := aI @hz @hw2
            (first | refine go ?_ | exact goC | skip); repeat' (first | refine gP ?_ | exact gPc | refine gN ?_ | exact gNc | (refine gI ?_ ?_ <;> intro hyp <;> first | refine goF ?_ | exact goFc | refine goT ?_ | exact goTc | skip))
            rw [e0]
            exact ⟨rfl, Q2, F2, t1, t3, ⟨row2, T2⟩, fun i q => .inl q⟩
        · rw [if_neg hz] at e0
          obtain ⟨J2, hJ2⟩ : ∃ J2 : Jst, J2 = { J with next := J.next + 1, fin := J.fin + count t.length, closed := true } := ⟨_, rfl⟩
          rw [← hJ2] at e0
          have jN2 : J2.nums = J1.nums := by rw [jN1, hJ2]; rfl
          have jT2 : J2.texts = J1.texts := by rw [jT1, hJ2]; rfl
          have jb2 : J2.bad = J1.bad := by rw [hJ2, jb1]
          have jo2 : J2.next = J1.next ∧ J2.fin = J1.fin ∧ J2.closed = true := by rw [hJ2, hJ1]; exact ⟨rfl, rfl, rfl⟩
          replace fx := aI @hz @row2
          (first | refine go ?_ | exact goC | skip); repeat' (first | refine gP ?_ | exact gPc | refine gN ?_ | exact gNc | (refine gI ?_ ?_ <;> intro hyp <;> first | refine goF ?_ | exact goFc | refine goT ?_ | exact goTc | skip))
          rw [e0]
          refine ⟨rfl, Q2.fr (fr_j _ _ _) (fun i hi e => sep i (.inl e) hi), F2.trans ?_, t1, t3, ⟨?_, ?_⟩, fun i q => .inl q⟩
          · exact (fr_j _ _ _).mono (fun i _ e => .inl (.inl e))
          · show _ = some (Obj.row true 0 true [.ptr d 0, .sl (J2.nums.map intN) t1, .sl (J2.bad.map intN) t2, .sl (J2.texts.map strV) t3, .int .i64 (J2.next : Int), .int .i64 (J2.fin : Int), .bool J2.closed])
            rw [jN2, jT2, jb2, jo2.1, jo2.2.1, jo2.2.2]
            exact get_put_old row2
          · have := T2.fr (fr_j h2 j (some (.row true 0 true [.ptr d 0, .sl (J1.nums.map intN) t1, .sl (J1.bad.map intN) t2, .sl (J1.texts.map strV) t3, .int .i64 (J1.next : Int), .int .i64 (J1.fin : Int), .bool true]))) (fun i q e => ntj i q e)
            show JT _ t1 t2 t3 J2
            exact ⟨by rw [jN2]; exact this.g1, by rw [jb2]; exact this.g2, by rw [jT2]; exact this.g3, this.ne⟩
end Go.Proofs.YtjofjgflcogklaaDoor

namespace Go.Proofs.YtjofjgflcogklaaDoor
open Go Go.Abs Go.Sha Go.Jn
def zero64 : Bs := List.replicate 64 0
theorem unpack_zero : unpack zero64 = none := by
  refine unpack_none fun h => ?_
  obtain ⟨_, _, h3, _⟩ := (good_iff _).1 h
  have : (fld zero64).number = 0 := by rfl
  omega
theorem flat_chunks (t : Bs) : ∀ (C : Nat), t.length ≤ 48 * C → (List.range C).flatMap (fun k => (t.drop (48 * k)).take 48) = t := by
  have key : ∀ C, (List.range C).flatMap (fun k => (t.drop (48 * k)).take 48) = t.take (48 * C) := by
    intro C
    induction C with
    | zero => simp
    | succ C ih =>
      rw [List.range_succ, List.flatMap_append, ih]
      simp only [List.flatMap_cons, List.flatMap_nil, List.append_nil]
      rw [show 48 * (C + 1) = 48 * C + 48 by omega, List.take_add]
  intro C h
  rw [key, List.take_of_length_le h]
structure Seg where
  n : Nat
  t : Bs
  l : List Bs
def Seg.whole (g : Seg) : Prop := g.l = pack g.n g.t
structure Seg.ok (g : Seg) : Prop where
  n1 : 1 ≤ g.n
  n2 : g.n ≤ 4096
  t : g.t.length ≤ 8000
  len : g.l.length = count g.t.length
  each : ∀ k, k < count g.t.length → nth g.l k = sector g.n g.t k ∨ nth g.l k = zero64
theorem nth_pack (n : Nat) (t : Bs) {k : Nat} (hk : k < count t.length) : nth (pack n t) k = sector n t k := by
  rw [nth_eq (by rw [pack_len]; exact hk)]; simp [pack]
theorem record_pack (n : Nat) (t : Bs) (h1 : 1 ≤ n) (h2 : n ≤ 4096) (ht : t.length ≤ 8000) (rest : List (Option Prt)) : record ((pack n t).map unpack ++ rest) = some (n, count t.length, t) := by
  have hc1 := count_pos t.length ht
  obtain ⟨C, hC⟩ : ∃ C, C = count t.length := ⟨_, rfl⟩
  have hg : ∀ k, k < C → ((pack n t).map unpack ++ rest)[k]? = some (some ⟨n, k, t.length - 48 * k, (t.drop (48 * k)).take 48⟩) := by
    intro k hk
    rw [List.getElem?_append_left (by rw [List.length_map, pack_len]; omega), List.getElem?_map]
    have : (pack n t)[k]? = some (sector n t k) := by simp [pack, ← hC, hk]
    rw [this, Option.map_some, good_sector n t k h1 h2 ht (by omega)]
  have h0 := hg 0 (by omega)
  obtain ⟨L, hL⟩ : ∃ L, L = (pack n t).map unpack ++ rest := ⟨_, rfl⟩
  have hLl : C ≤ L.length := by rw [hL, List.length_append, List.length_map, pack_len]; omega
  rw [← hL] at hg h0 ⊢
  cases L with
  | nil => simp at h0
  | cons p L' =>
    simp only [List.getElem?_cons_zero, Option.some.injEq] at h0
    subst h0
    have htx : textOf (some ⟨n, 0, t.length - 48 * 0, (t.drop (48 * 0)).take 48⟩ :: L') C = t := by
      have e : (some (⟨n, 0, t.length - 48 * 0, (t.drop (48 * 0)).take 48⟩ : Prt) :: L').take C = (List.range C).map (fun k => some (⟨n, k, t.length - 48 * k, (t.drop (48 * k)).take 48⟩ : Prt)) := by
        refine List.ext_getElem? fun k => ?_
        by_cases hk : k < C
        · rw [List.getElem?_take_of_lt hk, hg k hk]; simp [hk]
        · rw [List.getElem?_eq_none (by rw [List.length_take]; omega), List.getElem?_eq_none (by simp; omega)]
      rw [textOf, e, List.flatMap_map]
      have := flat_chunks t C (by rw [hC]; exact count_end t.length ht)
      exact this
    have hall : (List.range C).all (chainOk (some ⟨n, 0, t.length - 48 * 0, (t.drop (48 * 0)).take 48⟩ :: L') ⟨n, 0, t.length - 48 * 0, (t.drop (48 * 0)).take 48⟩) = true := by
      rw [List.all_eq_true]
      intro k hk
      rw [List.mem_range] at hk
      have hcl := count_lt t.length ht (by rw [← hC]; exact hk)
      rw [chainOk, hg k hk]
      simp only [decide_eq_true_eq]
      exact ⟨trivial, trivial, by omega⟩
    simp only [record, Nat.mul_zero, Nat.sub_zero, decide_true, Bool.true_and]
    simp only [Nat.mul_zero, Nat.sub_zero] at hall htx
    subst hC
    rw [if_pos, htx]
    rw [hall, Bool.and_true]
    exact decide_eq_true hLl
theorem scan_whole {n : Nat} {t : Bs} (h1 : 1 ≤ n) (h2 : n ≤ 4096) (ht : t.length ≤ 8000) (rest : List (Option Prt)) (R : List (Nat × Bs)) : scanS ((pack n t).map unpack ++ rest) 0 R = scanS rest 0 (addRec R n t) := by
  rw [scanS_some (record_pack n t h1 h2 ht rest) (count_pos _ ht)]
  congr 1
  rw [List.drop_left' (by rw [List.length_map, pack_len])]
theorem scan_broken {g : Seg} (ok : g.ok) (hb : ∃ k, k < count g.t.length ∧ nth g.l k = zero64) (rest : List (Option Prt)) (R : List (Nat × Bs)) : scanS (g.l.map unpack ++ rest) 0 R = scanS rest 0 R := by
  obtain ⟨o1, o2, ot, ol, oe⟩ := ok
  have key : ∀ (m i : Nat), m = g.l.length - i → i ≤ g.l.length → scanS ((g.l.drop i).map unpack ++ rest) 0 R = scanS rest 0 R := by
    intro m
    induction m with
    | zero =>
      intro i hm hi
      rw [List.drop_eq_nil_of_le (by omega)]; rfl
    | succ m ih =>
      intro i hm hi
      have hil : i < g.l.length := by omega
      have hgi : g.l[i] = nth g.l i := (nth_eq hil).symm
      have hne : (g.l.drop i).map unpack ++ rest ≠ [] := fun e => by
        have := congrArg List.length e
        simp at this; omega
      have hnone : record ((g.l.drop i).map unpack ++ rest) = none := by
        rw [List.drop_eq_getElem_cons hil, hgi, List.map_cons, List.cons_append]
        rcases oe i (by omega) with e | e
        · rw [e, good_sector g.n g.t i o1 o2 ot (by omega)]
          by_cases hi0 : i = 0
          · subst hi0
            obtain ⟨k, hk, hz⟩ := hb
            have hne0 : k ≠ 0 := by
              rintro rfl
              rw [e] at hz
              have := good_sector g.n g.t 0 o1 o2 ot (by omega)
              rw [hz, unpack_zero] at this
              simp at this
            simp only [record]
            rw [if_neg]
            simp only [Bool.and_eq_true, decide_eq_true_eq, List.all_eq_true, List.mem_range]
            rintro ⟨_, _, hall⟩
            have := hall k (by simpa using hk)
            rw [chainOk] at this
            obtain ⟨k', rfl⟩ : ∃ k', k = k' + 1 := ⟨k - 1, by omega⟩
            rw [List.getElem?_cons_succ, List.getElem?_append_left (by rw [List.length_map, List.length_drop]; omega), List.getElem?_map, List.getElem?_drop, List.getElem?_eq_getElem (by omega)] at this
            have hz' : g.l[0 + 1 + k'] = zero64 := by rw [← hz, nth_eq (by omega)]; congr 1; omega
            rw [hz', Option.map_some, unpack_zero] at this
            simp at this
          · simp only [record]
            rw [if_neg]
            simp [hi0]
        · rw [e, unpack_zero]; rfl
      rw [scanS_none hne hnone]
      rw [List.drop_eq_getElem_cons hil, List.map_cons, List.cons_append, List.drop_succ_cons, List.drop_zero]
      exact ih (i + 1) (by omega) (by omega)
  exact key _ 0 rfl (Nat.zero_le _)
theorem scan_blank (m : Nat) (R : List (Nat × Bs)) : scanS ((List.replicate m zero64).map unpack) 0 R = R := by
  induction m with
  | zero => rfl
  | succ m ih =>
    rw [List.replicate_succ, List.map_cons, unpack_zero, scanS_none (by simp) rfl, List.drop_succ_cons, List.drop_zero]
    exact ih
structure GInv (S : List (Seg × Bool)) (J : Jst) (D : Dsk) : Prop where
  off : D.off = false
  left : D.left = none
  nx : ∀ x ∈ D.s, x.next = none
  con : conts D = S.flatMap (·.1.l) ++ List.replicate (D.s.length - J.fin) zero64
  fin : (S.flatMap (·.1.l)).length = J.fin
  le : J.fin ≤ D.s.length
  ok : ∀ g ∈ S, g.1.ok
  yes : ∀ g ∈ S, g.2 = true → g.1.l = pack g.1.n g.1.t
  no : ∀ g ∈ S, g.2 = false → ∃ k, k < count g.1.t.length ∧ nth g.1.l k = zero64
  recs : J.recs = (S.filter (·.2)).map fun g => (g.1.n, g.1.t)
  lt : ∀ g ∈ S, g.1.n < J.next
  inc : S.Pairwise fun a b => a.1.n < b.1.n
  n1 : 1 ≤ J.next
  n2 : J.next ≤ 4097
  closed : J.closed = false
theorem scan_segs : ∀ (S : List (Seg × Bool)) (R : List (Nat × Bs)) (m : Nat), (∀ g ∈ S, g.1.ok) → (∀ g ∈ S, g.2 = true → g.1.l = pack g.1.n g.1.t) → (∀ g ∈ S, g.2 = false → ∃ k, k < count g.1.t.length ∧ nth g.1.l k = zero64) →
    S.Pairwise (fun a b => a.1.n < b.1.n) → (∀ x ∈ R, ∀ g ∈ S, x.1 < g.1.n) →
    scanS ((S.flatMap (·.1.l) ++ List.replicate m zero64).map unpack) 0 R = R ++ (S.filter (·.2)).map fun g => (g.1.n, g.1.t)
  | [], R, m, _, _, _, _, _ => by
    have := scan_blank m R
    simpa using this
  | g :: S, R, m, h1, h2, h3, h4, h5 => by
    rw [List.pairwise_cons] at h4
    rw [List.flatMap_cons, List.append_assoc, List.map_append]
    cases hg : g.2 with
    | true =>
      have ok := h1 g (by simp)
      rw [h2 g (by simp) hg, scan_whole ok.n1 ok.n2 ok.t]
      have hnot : g.1.n ∉ R.map (·.1) := fun hm => by
        obtain ⟨x, hx, e⟩ := List.mem_map.1 hm
        have := h5 x hx g (by simp)
        omega
      rw [addRec, if_neg hnot, scan_segs S _ m (fun g hg => h1 g (by simp [hg])) (fun g hg => h2 g (by simp [hg])) (fun g hg => h3 g (by simp [hg])) h4.2 (fun x hx g' hg' => by
        rcases List.mem_append.1 hx with hx | hx
        · exact h5 x hx g' (by simp [hg'])
        · simp at hx; subst hx; exact h4.1 g' hg')]
      rw [List.filter_cons_of_pos (by simp [hg])]
      simp
    | false =>
      rw [scan_broken (h1 g (by simp)) (h3 g (by simp) hg), scan_segs S R m (fun g hg => h1 g (by simp [hg])) (fun g hg => h2 g (by simp [hg])) (fun g hg => h3 g (by simp [hg])) h4.2 (fun x hx g' hg' => h5 x hx g' (by simp [hg']))]
      rw [List.filter_cons_of_neg (by simp [hg])]
theorem GInv.found {S : List (Seg × Bool)} {J : Jst} {D : Dsk} (h : GInv S J D) : (openJ (conts D)).recs = J.recs := by
  show scanS ((conts D).map unpack) 0 [] = J.recs
  rw [h.con, scan_segs S [] _ h.ok h.yes h.no h.inc (by simp), h.recs]; simp
def putNext (l : List Sec) (a : Nat) : List Bs → List Sec
  | [] => l
  | s :: ss => putNext (l.set a { nth l a with next := if h : s.length = 64 then some ⟨s, h⟩ else none }) (a + 1) ss
theorem wrAll_ok : ∀ (ss : List Bs) (D : Dsk) (a : Nat), D.off = false → D.left = none → a + ss.length ≤ D.s.length → (∀ s ∈ ss, s.length = 64) →
    wrAll D a ss = (0, { D with s := putNext D.s a ss })
  | [], D, a, _, _, _, _ => rfl
  | s :: ss, D, a, h1, h2, h3, h4 => by
    have h64 := h4 s (by simp)
    simp only [List.length_cons] at h3
    have hw : D.write (a : Int) s = (0, { D with s := D.s.set a { nth D.s a with next := some ⟨s, h64⟩ } }) := by
      unfold Dsk.write
      rw [h1, h2, if_neg (by simp), if_neg (by omega), dif_pos h64, if_neg (by simp)]
      simp only [Int.toNat_natCast, stepL, Option.map_none]
    rw [wrAll, hw, if_pos rfl]
    refine (wrAll_ok ss { D with s := D.s.set a { nth D.s a with next := some (⟨s, h64⟩ : B64) } } (a + 1) h1 h2 (by simp; omega) (fun s hs => h4 s (by simp [hs]))).trans ?_
    rw [putNext, dif_pos h64]
theorem putNext_len (ss : List Bs) : ∀ (l : List Sec) (a : Nat), (putNext l a ss).length = l.length := by
  induction ss with
  | nil => intro l a; rfl
  | cons s ss ih => intro l a; rw [putNext, ih, List.length_set]
theorem putNext_nth (ss : List Bs) : ∀ (l : List Sec) (a i : Nat), a + ss.length ≤ l.length → i < l.length → (∀ s ∈ ss, s.length = 64) →
    nth (putNext l a ss) i = if h : a ≤ i ∧ i < a + ss.length ∧ (nth ss (i - a)).length = 64 then { nth l i with next := some ⟨nth ss (i - a), h.2.2⟩ } else nth l i := by
  induction ss with
  | nil =>
    intro l a i _ _ _
    rw [dif_neg (by simp; omega)]; rfl
  | cons s ss ih =>
    intro l a i h1 h2 h3
    simp only [List.length_cons] at h1
    have h64 := h3 s (by simp)
    rw [putNext, dif_pos h64, ih _ (a + 1) i (by rw [List.length_set]; omega) (by rw [List.length_set]; exact h2) (fun s hs => h3 s (by simp [hs])), nth_set _ (by omega)]
    by_cases e : i = a
    · subst e
      rw [if_pos rfl, dif_neg (by omega), dif_pos ⟨Nat.le_refl _, by simp, by rw [Nat.sub_self]; exact h64⟩]
      simp [Nat.sub_self, nth]
    · rw [if_neg e]
      by_cases hi : a + 1 ≤ i ∧ i < a + 1 + ss.length
      · have en : nth (s :: ss) (i - a) = nth ss (i - (a + 1)) := by
          rw [show i - a = (i - (a + 1)) + 1 by omega]; simp [nth]
        have hl : (nth ss (i - (a + 1))).length = 64 := h3 _ (by simp [nth_mem (l := ss) (i := i - (a + 1)) (by omega)])
        rw [dif_pos ⟨hi.1, hi.2, hl⟩, dif_pos ⟨by omega, by simp; omega, by rw [en]; exact hl⟩]
        simp only [en]
      · rw [dif_neg (fun q => hi ⟨q.1, q.2.1⟩), dif_neg (fun q => by simp only [List.length_cons] at q; omega)]
theorem mix64 (b t : B64) : (mix b t (clampP 64) (clampP_le 64)) = b := by
  apply Subtype.ext
  have h1 := b.2
  have h2 := t.2
  have e : clampP 64 = 64 := rfl
  show b.1.take (clampP 64) ++ t.1.drop (clampP 64) = b.1
  rw [e, List.take_of_length_le (by omega), List.drop_eq_nil_of_le (by omega), List.append_nil]
theorem mountS64_len (l : List Sec) (k : Nat) : (mountS (fun _ => 64) l k).length = l.length := mountS_len _ _ _
theorem mountS64_nth : ∀ (l : List Sec) (k i : Nat), i < l.length → (nth l i).next = none ∨ (∃ v, (nth l i).next = some v) → nth (mountS (fun _ => 64) l k) i =
    match (nth l i).next with | none => nth l i | some v => ⟨if (nth l i).worn then (nth l i).text else v, none, (nth l i).worn⟩
  | [], _, _, h, _ => by simp at h
  | x :: l, k, 0, _, _ => by
    have hx : nth (x :: l) 0 = x := rfl
    simp only [mountS, hx]
    cases hn : x.next with
    | none => rfl
    | some v =>
      show settle x 64 = _
      simp only [settle, hn, mix64]
  | x :: l, k, i + 1, h, q => by
    have hx : nth (x :: l) (i + 1) = nth l i := rfl
    rw [hx] at q ⊢
    simp only [mountS]
    cases hn : x.next with
    | none => exact mountS64_nth l k i (by simpa using h) q
    | some v => exact mountS64_nth l (k + 1) i (by simpa using h) q
theorem put_flush {D : Dsk} {ss : List Bs} {a : Nat} (ho : D.off = false) (hl : D.left = none) (hn : ∀ x ∈ D.s, x.next = none) (ha : a + ss.length ≤ D.s.length) (h64 : ∀ s ∈ ss, s.length = 64) :
    ∃ E : Dsk, (wrAll D a ss) = (0, { D with s := putNext D.s a ss }) ∧ (wrAll D a ss).2.flush = (0, E) ∧ E.off = false ∧ E.left = none ∧ (∀ x ∈ E.s, x.next = none) ∧ E.s.length = D.s.length ∧
      (∀ i, i < D.s.length → nth (conts E) i = if a ≤ i ∧ i < a + ss.length ∧ (nth D.s i).worn = false then nth ss (i - a) else nth (conts D) i) := by
  have e1 := wrAll_ok ss D a ho hl ha h64
  have e2 : ({ D with s := putNext D.s a ss } : Dsk).flush = (0, { D with s := mountS (fun _ => 64) (putNext D.s a ss) 0 }) := by
    unfold Dsk.flush
    rw [ho, hl, if_neg (by simp), if_neg (by simp)]
    simp [stepL]
  have hnn : ∀ i, i < D.s.length → (nth D.s i).next = none := fun i hi => hn _ (nth_mem hi)
  have key : ∀ i, i < D.s.length → nth (mountS (fun _ => 64) (putNext D.s a ss) 0) i = if h : a ≤ i ∧ i < a + ss.length ∧ (nth ss (i - a)).length = 64 then ⟨if (nth D.s i).worn then (nth D.s i).text else ⟨nth ss (i - a), h.2.2⟩, none, (nth D.s i).worn⟩ else nth D.s i := by
    intro i hi
    have hp := putNext_nth ss D.s a i ha hi h64
    rw [mountS64_nth _ 0 i (by rw [putNext_len]; exact hi) (by cases (nth (putNext D.s a ss) i).next with | none => exact .inl rfl | some v => exact .inr ⟨v, rfl⟩), hp]
    by_cases q : a ≤ i ∧ i < a + ss.length ∧ (nth ss (i - a)).length = 64
    · rw [dif_pos q, dif_pos q]
    · rw [dif_neg q, dif_neg q, hnn i hi]
  refine ⟨{ D with s := mountS (fun _ => 64) (putNext D.s a ss) 0 }, e1, by rw [e1]; exact e2, ho, hl, ?_, by rw [mountS64_len, putNext_len], ?_⟩
  · intro x hx
    obtain ⟨i, hi, rfl⟩ := List.mem_iff_getElem.1 hx
    have hi' : i < D.s.length := by simpa [mountS_len, putNext_len] using hi
    rw [← nth_eq hi, key i hi']
    split
    · rfl
    · exact hnn i hi'
  · intro i hi
    rw [nth_conts _ (by rw [mountS64_len, putNext_len]; exact hi), nth_conts _ hi]
    dsimp only
    rw [key i hi, hnn i hi]
    by_cases q : a ≤ i ∧ i < a + ss.length
    · have hl : (nth ss (i - a)).length = 64 := h64 _ (nth_mem (by omega))
      rw [dif_pos ⟨q.1, q.2, hl⟩]
      by_cases w : (nth D.s i).worn = true
      · rw [if_neg (by rw [w]; simp)]
        simp only [Option.getD_none]
        rw [w]; rfl
      · rw [Bool.not_eq_true] at w
        rw [if_pos ⟨q.1, q.2, w⟩]
        simp only [Option.getD_none]
        rw [w]; rfl
    · rw [dif_neg (fun z => q ⟨z.1, z.2.1⟩), if_neg (fun z => q ⟨z.1, z.2.1⟩), hnn i hi]
theorem rdAll_ok (E : Dsk) (ho : E.off = false) : ∀ (ss : List Bs) (a : Nat) (r : Bool), a + ss.length ≤ E.s.length → rdAll E a ss r = (0, r && decide (∀ k, k < ss.length → nth ss k = nth (conts E) (a + k)))
  | [], a, r, _ => by simp [rdAll]
  | s :: ss, a, r, h => by
    simp only [List.length_cons] at h
    rw [rdAll, read_conts E ho (by omega), if_pos rfl, rdAll_ok E ho ss (a + 1) _ (by omega), Bool.and_assoc]
    congr 2
    rw [← Bool.decide_and]
    apply decide_eq_decide.2
    constructor
    · rintro ⟨q1, q2⟩ k hk
      cases k with
      | zero => exact q1
      | succ k =>
        have := q2 k (by simpa using hk)
        rw [show a + (k + 1) = a + 1 + k by omega, ← this]; rfl
    · intro q
      refine ⟨q 0 (by simp), fun k hk => ?_⟩
      have := q (k + 1) (by simpa using hk)
      rw [show a + 1 + k = a + (k + 1) by omega, ← this]; rfl
theorem ext_nth {α : Type} [Inhabited α] {l l' : List α} (hl : l.length = l'.length) (h : ∀ i, i < l.length → nth l i = nth l' i) : l = l' := by
  refine List.ext_getElem hl fun i h1 h2 => ?_
  have := h i h1
  rwa [nth_eq h1, nth_eq h2] at this
theorem good_zero : zero64.length = 64 := rfl
theorem sector_ne_zero {n : Nat} {t : Bs} {k : Nat} (h1 : 1 ≤ n) (h2 : n ≤ 4096) (h3 : t.length ≤ 8000) (hk : k < count t.length) : sector n t k ≠ zero64 := fun e => by
  have := good_sector n t k h1 h2 h3 hk
  rw [e, unpack_zero] at this
  simp at this
theorem GInv.step {S : List (Seg × Bool)} {J : Jst} {D : Dsk} (g : GInv S J D) (t : Bs) (C : Int) (J' : Jst) (D' : Dsk) (n : Int) (he : appendJ J D t = ((n, C), (J', D'))) :
    (∃ S', GInv S' J' D') ∧ D'.s.length = D.s.length ∧ ((C = 0 ∧ n = (J.next : Int) ∧ J'.recs = J.recs ++ [(J.next, t)] ∧ J'.next = J.next + 1) ∨ (n = 0 ∧ (C = 4 ∨ C = 20 ∨ C = 22) ∧ J'.recs = J.recs ∧ J.next ≤ J'.next)) := by
  have h1 := g.closed
  by_cases h2 : 8000 < t.length ∨ 4096 < J.next
  · rw [appendJ, if_neg (by simp [h1]), if_pos h2] at he
    cases he
    exact ⟨⟨S, g⟩, rfl, .inr ⟨rfl, .inl rfl, rfl, Nat.le_refl _⟩⟩
  · by_cases h3 : (D.s.length : Int) - (J.fin : Int) < (count t.length : Int)
    · rw [appendJ, if_neg (by simp [h1]), if_neg h2, if_pos h3] at he
      cases he
      exact ⟨⟨S, g⟩, rfl, .inr ⟨rfl, .inr (.inl rfl), rfl, Nat.le_refl _⟩⟩
    · rw [appendJ_go h1 h2 h3] at he
      obtain ⟨ss, hss⟩ : ∃ ss, ss = pack J.next t := ⟨_, rfl⟩
      have hlen : ss.length = count t.length := by rw [hss, pack_len]
      have hN := g.n1
      have hle := g.le
      have h64 : ∀ s ∈ ss, s.length = 64 := by
        intro s hs
        rw [hss] at hs
        obtain ⟨k, _, rfl⟩ := List.mem_map.1 hs
        exact sector_len _ _ _
      obtain ⟨E, e1, e2, e3, e4, e5, e6, e7⟩ := put_flush (ss := ss) (a := J.fin) g.off g.left g.nx (by omega) h64
      have e8 := rdAll_ok E e3 ss J.fin true (by omega)
      obtain ⟨b, hb⟩ : ∃ b : Bool, b = decide (∀ k, k < ss.length → nth ss k = nth (conts E) (J.fin + k)) := ⟨_, rfl⟩
      rw [← hb, Bool.true_and] at e8
      have hw : writeJ D J.fin ss = ((0, b), E) := by
        unfold writeJ
        rw [if_pos (by rw [e1]), e2, if_pos rfl, e8]
      rw [← hss, hw] at he
      dsimp only at he
      rw [if_pos rfl] at he
      have hcl : (conts D).length = D.s.length := conts_len D
      obtain ⟨F, hF⟩ : ∃ F, F = S.flatMap (·.1.l) := ⟨_, rfl⟩
      have hcon := g.con
      have hfin := g.fin
      rw [← hF] at hcon hfin
      have hz : ∀ i, J.fin ≤ i → i < D.s.length → nth (conts D) i = zero64 := by
        intro i q1 q2
        rw [hcon, nth_append_right (by omega), nth_replicate _ _ (by omega)]
      obtain ⟨mid, hmid⟩ : ∃ mid, mid = (List.range (count t.length)).map fun k => nth (conts E) (J.fin + k) := ⟨_, rfl⟩
      have hml : mid.length = count t.length := by rw [hmid]; simp
      have hmn : ∀ k, k < count t.length → nth mid k = nth (conts E) (J.fin + k) := by
        intro k hk
        rw [nth_eq (by omega)]; simp [hmid]
      have hms : ∀ k, k < count t.length → nth mid k = if (nth D.s (J.fin + k)).worn = false then sector J.next t k else zero64 := by
        intro k hk
        rw [hmn k hk, e7 _ (by omega)]
        by_cases w : (nth D.s (J.fin + k)).worn = false
        · rw [if_pos ⟨by omega, by omega, w⟩, if_pos w, hss, Nat.add_sub_cancel_left, nth_pack _ _ hk]
        · rw [if_neg (fun z => w z.2.2), if_neg w, hz _ (by omega) (by omega)]
      have hE : conts E = (F ++ mid) ++ List.replicate (E.s.length - (J.fin + count t.length)) zero64 := by
        refine ext_nth (by rw [conts_len, List.length_append, List.length_append, List.length_replicate]; omega) fun i hi => ?_
        rw [conts_len, e6] at hi
        by_cases q1 : i < J.fin
        · rw [e7 i hi, if_neg (by omega), hcon, nth_append_left (by omega), nth_append_left (by rw [List.length_append]; omega), nth_append_left (by omega)]
        · by_cases q2 : i < J.fin + count t.length
          · rw [nth_append_left (by rw [List.length_append]; omega), nth_append_right (by omega), hmn _ (by omega)]
            congr 1; omega
          · rw [nth_append_right (by rw [List.length_append]; omega), nth_replicate _ _ (by rw [List.length_append]; omega), e7 i hi, if_neg (by omega), hz i (by omega) hi]
      have ok : Seg.ok ⟨J.next, t, mid⟩ := ⟨hN, by show J.next ≤ 4096; omega, by show t.length ≤ 8000; omega, hml, fun k hk => by
        show nth mid k = _ ∨ nth mid k = _
        rw [hms k hk]
        split
        · exact .inl rfl
        · exact .inr rfl⟩
      have hbt : b = true → mid = pack J.next t := by
        intro q
        rw [hb] at q
        have q := of_decide_eq_true q
        refine ext_nth (by rw [hml, pack_len]) fun k hk => ?_
        rw [hmn k (by omega), ← hss]
        exact (q k (by omega)).symm
      have hbf : b = false → ∃ k, k < count t.length ∧ nth mid k = zero64 := by
        intro q
        rw [hb] at q
        have q := of_decide_eq_false q
        refine Classical.byContradiction fun no => q fun k hk => ?_
        rw [← hmn k (by omega), hms k (by omega)]
        by_cases w : (nth D.s (J.fin + k)).worn = false
        · rw [if_pos w, hss, nth_pack _ _ (by omega)]
        · exact absurd ⟨k, by omega, by rw [hms k (by omega), if_neg w]⟩ no
      have inv : ∀ J2 : Jst, J2.fin = J.fin + count t.length → J2.next = J.next + 1 → J2.closed = false → J2.recs = (if b then J.recs ++ [(J.next, t)] else J.recs) → GInv (S ++ [(⟨J.next, t, mid⟩, b)]) J2 E := by
        intro J2 j1 j2 j3 j4
        refine ⟨e3, e4, e5, ?_, ?_, by omega, ?_, ?_, ?_, ?_, ?_, ?_, by omega, by omega, j3⟩
        · rw [hE, List.flatMap_append, ← hF, j1]; simp
        · rw [List.flatMap_append, ← hF, j1]; simp [hfin, hml]
        · intro x hx
          rcases List.mem_append.1 hx with hx | hx
          · exact g.ok x hx
          · simp at hx; subst hx; exact ok
        · intro x hx
          rcases List.mem_append.1 hx with hx | hx
          · exact g.yes x hx
          · simp at hx; subst hx; exact hbt
        · intro x hx
          rcases List.mem_append.1 hx with hx | hx
          · exact g.no x hx
          · simp at hx; subst hx; exact hbf
        · rw [j4, g.recs, List.filter_append, List.map_append]
          cases b <;> simp
        · intro x hx
          rcases List.mem_append.1 hx with hx | hx
          · have := g.lt x hx; omega
          · simp at hx; subst hx; show J.next < _; omega
        · rw [List.pairwise_append]
          refine ⟨g.inc, by simp, fun x hx y hy => ?_⟩
          simp at hy; subst hy
          exact g.lt x hx
      cases b with
      | true =>
        rw [if_pos rfl] at he
        cases he
        exact ⟨⟨_, inv _ rfl rfl h1 rfl⟩, e6, .inl ⟨rfl, rfl, rfl, rfl⟩⟩
      | false =>
        rw [if_neg (by simp)] at he
        cases he
        exact ⟨⟨_, inv _ rfl rfl h1 rfl⟩, e6, .inr ⟨rfl, .inr (.inr rfl), rfl, by simp⟩⟩
end Go.Proofs.YtjofjgflcogklaaDoor

namespace Go.Abs
def mnxV (mx : Bool) : AVal → AVal → Option AVal
  | .int k a, .int _ b => some (.int k (if mx then (if a < b then b else a) else (if b < a then b else a)))
  | _, _ => none
theorem mnxV_int (mx : Bool) (k k' : IntKind) (a b : Int) : mnxV mx (.int k a) (.int k' b) = some (.int k (if mx then (if a < b then b else a) else (if b < a then b else a))) := rfl
theorem XW_mnx {F : Nat → Option AEnt} {ev : Opd → AVal} {h : Heap} {K : AVal → Heap → Prop} {mx : Bool} {x y : Opd} : XW F (.mnx mx x y) ev h K ↔ bindK (mnxV mx (ev x) (ev y)) K h :=
  XW_val (fun _ => rfl) (by
    simp only [evalA]
    generalize ev x = a
    generalize ev y = b
    cases a <;> cases b <;> rfl)
end Go.Abs
namespace Go.Proofs.YtjofjgflcogklaaDoor
open Go Go.Abs Go.Sha Go.Jn
structure Stp where
  kind : Int
  i : Int
  bit : Int
  size : Int
  fill : UInt8
  picks : List Int
  tk : Tok
  deriving Inhabited
def Stp.cells (o : Stp) : List AVal := [.int .i64 o.kind, .int .i64 o.i, .int .i64 o.bit, .int .i64 o.size, byteV o.fill, .sl (o.picks.map (.int .i64)) o.tk]
def Stp.val (o : Stp) : AVal := .agg o.cells
structure Stp.ok (o : Stp) : Prop where
  plen : o.picks.length ≤ 9223372036854775807
  tk : o.tk = .none ∨ o.tk = .nil ∧ o.picks = []
def Stp.len (o : Stp) : Nat := (min (max o.size 0) 8100).toNat
def runB (f : UInt8) (n : Nat) : Bs := (List.range n).map fun k => f + UInt8.ofNat k
def Stp.text (o : Stp) : Bs := runB o.fill o.len
theorem runB_len (f : UInt8) (n : Nat) : (runB f n).length = n := by simp [runB]
theorem runB_succ (f : UInt8) (n : Nat) : runB f (n + 1) = runB f n ++ [f + UInt8.ofNat n] := by simp [runB, List.range_succ]
theorem Stp.text_len (o : Stp) : o.text.length ≤ 8100 := by rw [Stp.text, runB_len, Stp.len]; omega
theorem stext_v (o : Stp) : PV F 17 [o.val] = some (.str o.text) := by
  refine PV_wp (fn := c17) rfl ?_
  dsimp only [c17, Stp.val, Stp.cells]
  obtain ⟨N, hN⟩ : ∃ N, N = o.len := ⟨_, rfl⟩
  have hNle : N ≤ 8100 := by rw [hN, Stp.len]; omega
  have hM : (if (8100 : Int) < (if o.size < 0 then 0 else o.size) then 8100 else (if o.size < 0 then 0 else o.size)) = (N : Int) := by
    rw [hN, Stp.len]
    split <;> split at * <;> omega
  have hT : o.text = runB o.fill N := by rw [hN]; rfl
  replace fx := aI @XW_mnx (aI @mnxV_int (aI @hM (aI @byte_cells @byte_one)))
  (first | refine go ?_ | exact goC | skip); repeat' (first | refine gP ?_ | exact gPc | refine gN ?_ | exact gNc | (refine gI ?_ ?_ <;> intro hyp <;> first | refine goF ?_ | exact goFc | refine goT ?_ | exact goTc | skip))
  refine w_loop (fun m vs h' => ∃ (k : Nat) (tk : Tok) (x1 : AVal), m = N - k ∧ k ≤ N ∧ vs = [o.val, .ptr 0 0, .str [], .int .i64 (N : Int), .sl ((runB o.fill k).map byteV) tk, .int .i64 (k : Int), x1] ∧
      h'.get 0 = some (.row true 0 true o.cells) ∧ GrF (fun _ => False) (Heap.empty.push (.row true 0 true o.cells)) h' 5 1 (runB o.fill k) tk) N
    ⟨0, .nil, _, rfl, by omega, rfl, get_push_eq rfl, GrF.nil _ _ _ _⟩ ?_
  rintro m vs h' ⟨k, tk, x1, rfl, hk, rfl, g, G⟩
  have sl := runB_len o.fill k
  have ss := runB_succ o.fill k
  unfold Stp.cells at g
  by_cases hkm : k < N
  · have e3 : toIntA .u8 (.int .i64 ((k : Nat) : Int)) = some (byteV (UInt8.ofNat k)) := by rw [toU8]
    have e4 : ∀ a b : UInt8, binA .add .arith (byteV a) (byteV b) = some (byteV (a + b)) := fun a b => by
      have : IntKind.u8.wrap ((a.toNat : Int) + (b.toNat : Int)) = ((a + b).toNat : Int) := by
        rw [u8_wrap, UInt8.toNat_add]; omega
      simp only [byteV, binA, intBin, if_true, this, reduceCtorEq, or_self, if_false]
    have lb : ∀ (x : UInt8) H, litA 0 5 1 1 false [.int .u8 0] (some [byteV x]) H = some (.sl (([x] : List UInt8).map byteV) .none, H) := fun x H => lit_none rfl rfl rfl rfl
    replace fx := aI @g (aI @e3 (aI @e4 (aI @lb (aI @byte_cells @byte_one))))
    (first | refine go ?_ | exact goC | skip); repeat' (first | refine gP ?_ | exact gPc | refine gN ?_ | exact gNc | (refine gI ?_ ?_ <;> intro hyp <;> first | refine goF ?_ | exact goFc | refine goT ?_ | exact goTc | skip))
    refine append_F (f := byteV) (runB o.fill k) [o.fill + UInt8.ofNat k] byte_len (fun x => rfl) (fun x => rfl) rfl (elems_sl (l := [_]) byte_len) G (by rw [sl]; simp; omega) (by omega) (by omega) (by omega) ?_
    intro h1 tk1 G1 n1 kr _
    rw [← ss] at G1 ⊢
    replace fx := Dum_eq
    (first | refine go ?_ | exact goC | skip); repeat' (first | refine gP ?_ | exact gPc | refine gN ?_ | exact gNc | (refine gI ?_ ?_ <;> intro hyp <;> first | refine goF ?_ | exact goFc | refine goT ?_ | exact goTc | skip))
    exact lp_n ⟨_, by omega, k + 1, tk1, _, rfl, by omega, rfl, kr _ _ _ _ _ g, G1⟩
  · have e : k = N := by omega
    subst e
    rw [hT]
    replace fx := Dum_eq
    (first | refine go ?_ | exact goC | skip); repeat' (first | refine gP ?_ | exact gPc | refine gN ?_ | exact gNc | (refine gI ?_ ?_ <;> intro hyp <;> first | refine goF ?_ | exact goFc | refine goT ?_ | exact goTc | skip))
structure Virgin (n : Nat) (D : Dsk) : Prop where
  off : D.off = false
  left : D.left = none
  len : D.s.length = n
  all : ∀ x ∈ D.s, x.text = zeroB ∧ x.next = none
theorem virgin_fresh (n : Nat) : Virgin n (freshD n) := ⟨rfl, rfl, by simp [freshD], fun x hx => by
  simp only [freshD, List.mem_replicate] at hx
  rw [hx.2]; exact ⟨rfl, rfl⟩⟩
theorem Virgin.wear {n : Nat} {D : Dsk} (v : Virgin n D) (i : Int) : Virgin n (D.wear i).2 := by
  unfold Dsk.wear
  split
  · exact v
  · rename_i hi
    refine ⟨v.off, v.left, by simp [v.len], fun x hx => ?_⟩
    rcases List.mem_or_eq_of_mem_set hx with hx | rfl
    · exact v.all x hx
    · exact v.all (nth D.s i.toNat) (nth_mem (by omega))
theorem Virgin.conts {n : Nat} {D : Dsk} (v : Virgin n D) : conts D = List.replicate n zero64 := by
  refine ext_nth (by rw [conts_len, v.len, List.length_replicate]) fun i hi => ?_
  rw [conts_len] at hi
  obtain ⟨h1, h2⟩ := v.all _ (nth_mem hi)
  rw [nth_conts D hi, h1, h2, nth_replicate _ _ (by rw [← v.len]; exact hi)]
  rfl
theorem heads_blank (n : Nat) : ∀ k, k ≤ n → heads (List.replicate n zero64) k = ⟨[], [], 1, 0, false⟩
  | 0, _ => rfl
  | k + 1, h => by
    rw [heads, heads_blank n k (by omega), nth_replicate _ _ (by omega), scanSec, unpack_zero]
    rfl
theorem Virgin.opened {n : Nat} {D : Dsk} (v : Virgin n D) : openJ (Go.Proofs.YtjofjgflcogklaaDoor.conts D) = ⟨[], [], 1, 0, false⟩ := by
  rw [v.conts, openJ, List.length_replicate, heads_blank n n (Nat.le_refl _), scan_blank]
theorem Virgin.inv {n : Nat} {D : Dsk} (v : Virgin n D) : GInv [] ⟨[], [], 1, 0, false⟩ D :=
  ⟨v.off, v.left, fun x hx => (v.all x hx).2, by rw [v.conts, v.len]; rfl, rfl, by simp, by simp, by simp, by simp, rfl, by simp, List.Pairwise.nil, by simp, by simp, rfl⟩
end Go.Proofs.YtjofjgflcogklaaDoor

namespace Go.Proofs.YtjofjgflcogklaaDoor
open Go Go.Abs Go.ChangeShapes Go.WideShapes Go.ChangeAt Go.RowKit
attribute [local irreducible] okA
theorem wf_u8 {n : Int} (h : (Lit.int .u8 n).wf = true) : 0 ≤ n ∧ n < 256 := by
  simp only [Lit.wf, Bool.and_eq_true, decide_eq_true_eq] at h
  have h1 : IntKind.u8.min = 0 := rfl
  have h2 : IntKind.u8.max = 255 := rfl
  omega
theorem byte_of {n : Int} (h : 0 ≤ n ∧ n < 256) : AVal.int .u8 n = byteV (UInt8.ofNat n.toNat) := by
  unfold byteV
  congr 1
  simp
  omega
theorem argB {n : Nat} {x : AVal} (h1 : mk (isSt Tryd.prog 36) x.cells = some x) (h2 : okA Tryd.prog (n + 2) 36 x.cells) : ∃ (l : List UInt8) (tk : Abs.Tok), x = .sl (l.map byteV) tk ∧ l.length ≤ 9223372036854775807 := by
  have hst : isSt Tryd.prog 36 = false := by kernel_rfl
  have hsu : isSt Tryd.prog 5 = false := by kernel_rfl
  rw [hst] at h1
  rw [okA] at h2
  simp only [Tryd.underlying36] at h2
  obtain ⟨xs, tk, hx, htk, hlen, hall⟩ := h2
  rw [maxLen_eq] at hlen
  obtain ⟨l, rfl, hl⟩ := list_of (f := byteV) (q := fun _ => True) (fun x hx => by
    obtain ⟨g1, g2⟩ := hx
    rw [hsu] at g1
    rw [okA] at g2
    simp only [Tryd.underlying5] at g2
    obtain ⟨z, hz, hw⟩ := g2
    exact ⟨UInt8.ofNat z.toNat, (mk_one (ag := false) g1 hz).trans (byte_of (wf_u8 hw)), trivial⟩) hall
  exact ⟨l, tk, mk_one (ag := false) h1 hx, by simpa using hlen⟩
theorem argX {n : Nat} {x : AVal} (h1 : mk (isSt Tryd.prog 46) x.cells = some x) (h2 : okA Tryd.prog (n + 3) 46 x.cells) : ∃ o : Stp, x = o.val ∧ o.ok := by
  have hst : isSt Tryd.prog 46 = true := by kernel_rfl
  have hsi : isSt Tryd.prog 3 = false := by kernel_rfl
  rw [hst] at h1
  rw [okA] at h2
  simp only [Tryd.underlying46] at h2
  obtain ⟨hlen, hf⟩ := h2
  have hx : x = .agg x.cells := by simpa [mk] using h1.symm
  obtain ⟨y0, e0, q0⟩ := hf 0 _ rfl
  obtain ⟨y1, e1, q1⟩ := hf 1 _ rfl
  obtain ⟨y2, e2, q2⟩ := hf 2 _ rfl
  obtain ⟨y3, e3, q3⟩ := hf 3 _ rfl
  obtain ⟨y4, e4, q4⟩ := hf 4 _ rfl
  obtain ⟨y5, e5, q5⟩ := hf 5 _ rfl
  have hl : x.cells = [y0, y1, y2, y3, y4, y5] := by
    generalize x.cells = l at hlen e0 e1 e2 e3 e4 e5
    match l, hlen with
    | [a, b, c, d, e, f], _ => simp at e0 e1 e2 e3 e4 e5; subst e0; subst e1; subst e2; subst e3; subst e4; subst e5; rfl
  replace q0 : okA Tryd.prog (n + 2) 3 [y0] := q0
  replace q1 : okA Tryd.prog (n + 2) 3 [y1] := q1
  replace q2 : okA Tryd.prog (n + 2) 3 [y2] := q2
  replace q3 : okA Tryd.prog (n + 2) 3 [y3] := q3
  replace q4 : okA Tryd.prog (n + 2) 5 [y4] := q4
  replace q5 : okA Tryd.prog (n + 2) 44 [y5] := q5
  rw [okA] at q0 q1 q2 q3 q4 q5
  simp only [Tryd.underlying3] at q0 q1 q2 q3
  simp only [Tryd.underlying5] at q4
  simp only [Tryd.underlying44] at q5
  obtain ⟨z0, h0, w0⟩ := q0
  obtain ⟨z1, h1', w1⟩ := q1
  obtain ⟨z2, h2', w2⟩ := q2
  obtain ⟨z3, h3', w3⟩ := q3
  obtain ⟨z4, h4', w4⟩ := q4
  obtain ⟨xs, tk, h5', htk, hln, hall⟩ := q5
  rw [maxLen_eq] at hln
  obtain ⟨l, rfl, hl'⟩ := list_of (f := AVal.int .i64) (q := I64) (fun x hx => argI (n := n) hx.1 hx.2) hall
  simp at h0 h1' h2' h3' h4' h5'
  subst h0; subst h1'; subst h2'; subst h3'; subst h4'; subst h5'
  refine ⟨⟨z0, z1, z2, z3, UInt8.ofNat z4.toNat, l, tk⟩, ?_, by simpa using hln, ?_⟩
  · rw [hx, hl]
    show _ = AVal.agg [_, _, _, _, byteV _, _]
    rw [← byte_of (wf_u8 w4)]
  · rcases htk with rfl | ⟨rfl, h⟩
    · exact .inl rfl
    · exact .inr ⟨rfl, by simpa using h⟩
theorem argP {n : Nat} {x : AVal} (h1 : mk (isSt Tryd.prog 35) x.cells = some x) (h2 : okA Tryd.prog (n + 4) 35 x.cells) : ∃ (l : List Stp) (tk : Abs.Tok), x = .sl (l.map Stp.val) tk ∧ (∀ o ∈ l, o.ok) ∧ l.length ≤ 9223372036854775807 := by
  have hst : isSt Tryd.prog 35 = false := by kernel_rfl
  rw [hst] at h1
  rw [okA] at h2
  simp only [Tryd.underlying35] at h2
  obtain ⟨xs, tk, hx, htk, hlen, hall⟩ := h2
  rw [maxLen_eq] at hlen
  obtain ⟨l, rfl, hl⟩ := list_of (f := Stp.val) (q := Stp.ok) (fun x hx => argX (n := n) hx.1 hx.2) hall
  exact ⟨l, tk, mk_one (ag := false) h1 hx, hl, by simpa using hlen⟩
end Go.Proofs.YtjofjgflcogklaaDoor

namespace Go.Proofs.YtjofjgflcogklaaDoor
open Go Go.Abs Go.Sha Go.Jn
variable {h : Heap}
theorem take_succ_n {α : Type} [Inhabited α] (l : List α) {i : Nat} (hi : i < l.length) : l.take (i + 1) = l.take i ++ [nth l i] := by
  rw [List.take_succ_eq_append_getElem hi, nth_eq hi]
theorem same_upto {α : Type} [Inhabited α] [DecidableEq α] {xs ys : List α} {i : Nat} (hl : xs.length = ys.length) (hi : i < xs.length) (h : xs.take i = ys.take i) (he : nth xs i = nth ys i) : xs.take (i + 1) = ys.take (i + 1) := by
  rw [take_succ_n _ hi, take_succ_n _ (by omega), h, he]
theorem sameTexts_v (xs ys : List (List UInt8)) (t t' : Tok) (hl : xs.length ≤ 1000000) : PV F 10 [.sl (xs.map strV) t, .sl (ys.map strV) t'] = some (.bool (decide (xs = ys))) := by
  refine PV_wp (fn := c10) rfl ?_
  dsimp only [c10]
  by_cases hne : xs.length = ys.length
  · replace fx := Dum_eq
    (first | refine go ?_ | exact goC | skip); repeat' (first | refine gP ?_ | exact gPc | refine gN ?_ | exact gNc | (refine gI ?_ ?_ <;> intro hyp <;> first | refine goF ?_ | exact goFc | refine goT ?_ | exact goTc | skip))
    refine w_loop (fun m vs h3 => ∃ (i : Nat) (x1 x2 x3 x4 : AVal), m = xs.length - i ∧ i ≤ xs.length ∧ xs.take i = ys.take i ∧ vs = [.sl (xs.map strV) t, .sl (ys.map strV) t', x1, .int .i64 (i : Int), x2, x3, x4]) xs.length
      ⟨0, _, _, _, _, by omega, by omega, rfl, rfl⟩ ?_
    rintro m vs h3 ⟨i, x1, x2, x3, x4, rfl, hi, hS, rfl⟩
    by_cases hil : i < xs.length
    · by_cases he : nth xs i = nth ys i
      · replace fx := aI @strV_eq @he
        (first | refine go ?_ | exact goC | skip); repeat' (first | refine gP ?_ | exact gPc | refine gN ?_ | exact gNc | (refine gI ?_ ?_ <;> intro hyp <;> first | refine goF ?_ | exact goFc | refine goT ?_ | exact goTc | skip))
        exact lp_n ⟨_, by omega, i + 1, _, _, _, _, rfl, by omega, same_upto hne hil hS he, by push_cast; rfl⟩
      · replace fx := aI @strV_eq @he
        (first | refine go ?_ | exact goC | skip); repeat' (first | refine gP ?_ | exact gPc | refine gN ?_ | exact gNc | (refine gI ?_ ?_ <;> intro hyp <;> first | refine goF ?_ | exact goFc | refine goT ?_ | exact goTc | skip))
        have : ¬ xs = ys := fun e => he (by rw [e])
        simp [this]
    · have : xs = ys := by
        rw [List.take_of_length_le (by omega), List.take_of_length_le (by omega)] at hS
        exact hS
      replace fx := Dum_eq
      (first | refine go ?_ | exact goC | skip); repeat' (first | refine gP ?_ | exact gPc | refine gN ?_ | exact gNc | (refine gI ?_ ?_ <;> intro hyp <;> first | refine goF ?_ | exact goFc | refine goT ?_ | exact goTc | skip))
      simp [this]
  · have : ¬ xs = ys := fun e => hne (by rw [e])
    replace fx := Dum_eq
    (first | refine go ?_ | exact goC | skip); repeat' (first | refine gP ?_ | exact gPc | refine gN ?_ | exact gNc | (refine gI ?_ ?_ <;> intro hyp <;> first | refine goF ?_ | exact goFc | refine goT ?_ | exact goTc | skip))
    simp [this]
theorem sameInts_v (xs ys : List Nat) (t t' : Tok) (hl : xs.length ≤ 1000000) : PV F 18 [.sl (xs.map intN) t, .sl (ys.map intN) t'] = some (.bool (decide (xs = ys))) := by
  refine PV_wp (fn := c18) rfl ?_
  dsimp only [c18]
  by_cases hne : xs.length = ys.length
  · replace fx := Dum_eq
    (first | refine go ?_ | exact goC | skip); repeat' (first | refine gP ?_ | exact gPc | refine gN ?_ | exact gNc | (refine gI ?_ ?_ <;> intro hyp <;> first | refine goF ?_ | exact goFc | refine goT ?_ | exact goTc | skip))
    refine w_loop (fun m vs h3 => ∃ (i : Nat) (x1 x2 x3 x4 : AVal), m = xs.length - i ∧ i ≤ xs.length ∧ xs.take i = ys.take i ∧ vs = [.sl (xs.map intN) t, .sl (ys.map intN) t', x1, .int .i64 (i : Int), x2, x3, x4]) xs.length
      ⟨0, _, _, _, _, by omega, by omega, rfl, rfl⟩ ?_
    rintro m vs h3 ⟨i, x1, x2, x3, x4, rfl, hi, hS, rfl⟩
    by_cases hil : i < xs.length
    · by_cases he : nth xs i = nth ys i
      · replace fx := aI @intN_eq @he
        (first | refine go ?_ | exact goC | skip); repeat' (first | refine gP ?_ | exact gPc | refine gN ?_ | exact gNc | (refine gI ?_ ?_ <;> intro hyp <;> first | refine goF ?_ | exact goFc | refine goT ?_ | exact goTc | skip))
        exact lp_n ⟨_, by omega, i + 1, _, _, _, _, rfl, by omega, same_upto hne hil hS he, by push_cast; rfl⟩
      · replace fx := aI @intN_eq @he
        (first | refine go ?_ | exact goC | skip); repeat' (first | refine gP ?_ | exact gPc | refine gN ?_ | exact gNc | (refine gI ?_ ?_ <;> intro hyp <;> first | refine goF ?_ | exact goFc | refine goT ?_ | exact goTc | skip))
        have : ¬ xs = ys := fun e => he (by rw [e])
        simp [this]
    · have : xs = ys := by
        rw [List.take_of_length_le (by omega), List.take_of_length_le (by omega)] at hS
        exact hS
      replace fx := Dum_eq
      (first | refine go ?_ | exact goC | skip); repeat' (first | refine gP ?_ | exact gPc | refine gN ?_ | exact gNc | (refine gI ?_ ?_ <;> intro hyp <;> first | refine goF ?_ | exact goFc | refine goT ?_ | exact goTc | skip))
      simp [this]
  · have : ¬ xs = ys := fun e => hne (by rw [e])
    replace fx := Dum_eq
    (first | refine go ?_ | exact goC | skip); repeat' (first | refine gP ?_ | exact gPc | refine gN ?_ | exact gNc | (refine gI ?_ ?_ <;> intro hyp <;> first | refine goF ?_ | exact goFc | refine goT ?_ | exact goTc | skip))
    simp [this]
def sD0 : Dsk := freshD 4
def sJ0 : Jst := openJ (conts sD0)
def sA1 : (Int × Int) × (Jst × Dsk) := appendJ sJ0 sD0 [97]
def sA2 : (Int × Int) × (Jst × Dsk) := appendJ sA1.2.1 sA1.2.2 (List.replicate 50 120)
def sR : Int × Dsk := sA2.2.2.rot 1 70
def sK : Jst := openJ (conts sR.2)
def sB1 : (Int × Int) × (Jst × Dsk) := appendJ sK sR.2 [98]
def sB2 : (Int × Int) × (Jst × Dsk) := appendJ sB1.2.1 sB1.2.2 [99]
def sP : List Bs := pack 1 [97]
instance : DecidableEq Prt := fun a b => if h : a.number = b.number ∧ a.part = b.part ∧ a.left = b.left ∧ a.pay = b.pay then .isTrue (by cases a; cases b; simp at h; simp [h]) else .isFalse (by rintro rfl; simp at h)
theorem san : (decide (sJ0.next = 1 ∧ sJ0.fin = 0) && decide (sA1.1 = (1, 0) ∧ sA2.1 = (2, 0) ∧ sA2.2.1.fin = 3) && decide (sR.1 = 0 ∧ sB1.1 = (3, 0) ∧ sB2.1.2 = 20) &&
    decide (sB2.2.1.nums = [1, 3] ∧ sB2.2.1.texts = [[97], [98]] ∧ damaged sB2.2.1 = [2] ∧ sB2.2.1.bad = [1]) && decide (sP.length = 1 ∧ unpack (nth sP 0) = some ⟨1, 0, 1, [97]⟩) &&
    (!sD0.off && !sR.2.off && decide (sA2.2.2.s.length = 4) && decide (sR.2.s.length = 4))) = true := by kernel_rfl
end Go.Proofs.YtjofjgflcogklaaDoor

namespace Go.Proofs.YtjofjgflcogklaaDoor
open Go Go.Abs Go.Sha Go.Jn
variable {h : Heap}
theorem repeat_v : PV F 23 [.str [120], .int .i64 50] = some (.str (List.replicate 50 120)) := by
  have c : CV F 23 [.str [120], .int .i64 50] Heap.empty (fun v _ => v = .str (List.replicate 50 120)) := CV_hand (s := repeatS) rfl (r := .str (List.replicate 50 120)) (h' := Heap.empty) (by rfl) rfl
  obtain ⟨r, h', g, rfl⟩ := c
  exact PV_of g rfl
theorem sameInts_p (xs ys : List Nat) (hl : xs.length ≤ 1000000) (u u' : Tok) (_ : Pt u) (_ : Pt u') : PV F 18 [.sl (xs.map intN) u, .sl (ys.map intN) u'] = some (.bool (decide (xs = ys))) := sameInts_v xs ys u u' hl
theorem sameTexts_p (xs ys : List Bs) (hl : xs.length ≤ 1000000) (u u' : Tok) (_ : Pt u) (_ : Pt u') : PV F 10 [.sl (xs.map strV) u, .sl (ys.map strV) u'] = some (.bool (decide (xs = ys))) := sameTexts_v xs ys u u' hl
theorem _root_.Go.Abs.Fr.past {S : Nat → Prop} {h h1 h2 : Heap} (f : Fr (fun _ => False) h h1) (g : Fr S h1 h2) (hS : ∀ i, S i → h.next ≤ i) : Fr (fun _ => False) h h2 :=
  ⟨Nat.le_trans f.1 g.1, fun j hj _ => by have := f.1; rw [g.2 j (by omega) (fun q => by have := hS j q; omega)]; exact f.2 j hj (fun q => q)⟩
theorem and_split {a b : Bool} (h : (a && b) = true) : a = true ∧ b = true := by cases a <;> cases b <;> simp_all
theorem not_true {a : Bool} (h : (!a) = true) : a = false := by cases a <;> simp_all
theorem pc_one {f : Nat} {h : Heap} {v : AVal} {xs ys : List AVal} {b : Bool} {K : AVal → Heap → Prop} (hv : Pu h v xs) (e : ∀ u u', Pt u → Pt u' → PV F f [.sl xs u, .sl ys u'] = some (.bool b)) (k : K (.bool b) h) :
    PC F f (sc (strip v) (some [.sl ys .none])) [v, .sl ys .none] h K := pc_two (w := .sl ys .none) hv (Pu.sl h ys .none) e k
theorem puI_of {h : Heap} {v : AVal} {l : List Nat} (c : ClV h v intN l) : Pu h v (l.map intN) := c.pu (fun _ => rfl) (fun _ => rfl) (fun _ => rfl)
theorem puS_of {h : Heap} {v : AVal} {l : List Bs} (c : ClV h v strV l) : Pu h v (l.map strV) := c.pu (fun _ => rfl) (fun _ => rfl) (fun _ => rfl)
theorem pack1_v : PV F 6 [.int .i64 1, .str [97]] = some (.tup [.sl (sP.map strV) .none, .int .i64 0]) := by
  rw [pack_v 1 [97] (by simp)]
  unfold packV
  rw [if_neg (by omega), if_neg (by simp)]
  rfl
theorem sP_64 : (nth sP 0).length ≤ 1000000 := by
  have h1 : 1 ≤ sP.length := by rw [sP, pack_len]; exact count_pos _ (by simp)
  rw [nth_eq (by omega)]
  simp [sP, pack, sector_len]
theorem sanity_c (h : Heap) : CV F 5 [] h (fun v h' => v = .bool true ∧ Fr (fun _ => False) h h') := by
  obtain ⟨S, q6⟩ := and_split san
  obtain ⟨S, q5⟩ := and_split S
  obtain ⟨S, q4⟩ := and_split S
  obtain ⟨S, q3⟩ := and_split S
  obtain ⟨q1, q2⟩ := and_split S
  obtain ⟨q6, s18⟩ := and_split q6
  obtain ⟨q6, s17⟩ := and_split q6
  obtain ⟨s15, s16⟩ := and_split q6
  have s15 := not_true s15
  have s16 := not_true s16
  have s17 := of_decide_eq_true s17
  have s18 := of_decide_eq_true s18
  obtain ⟨s1, s2⟩ := of_decide_eq_true q1
  obtain ⟨s3, s4, s5⟩ := of_decide_eq_true q2
  obtain ⟨s6, s7, s8⟩ := of_decide_eq_true q3
  obtain ⟨s9, s10, s11, s12⟩ := of_decide_eq_true q4
  obtain ⟨s13, s14⟩ := of_decide_eq_true q5
  clear S q1 q2 q3 q4 q5 q6
  refine CV_wp (fn := c5) rfl ?_
  dsimp only [c5]
  have pn : ∀ i o, binA .eql .ptr (.ptr i o) .nilptr = some (.bool false) := fun _ _ => rfl
  have d0 : freshD (Int.toNat 4) = sD0 := rfl
  have l0 : sD0.s.length = 4 := rfl
  obtain ⟨D0, hD0⟩ : ∃ D, D = sD0 := ⟨_, rfl⟩
  obtain ⟨J0, hJ0⟩ : ∃ J, J = sJ0 := ⟨_, rfl⟩
  obtain ⟨A1, hA1⟩ : ∃ A, A = sA1 := ⟨_, rfl⟩
  obtain ⟨A2, hA2⟩ : ∃ A, A = sA2 := ⟨_, rfl⟩
  obtain ⟨R, hR⟩ : ∃ A, A = sR := ⟨_, rfl⟩
  obtain ⟨K, hK⟩ : ∃ A, A = sK := ⟨_, rfl⟩
  obtain ⟨B1, hB1⟩ : ∃ A, A = sB1 := ⟨_, rfl⟩
  obtain ⟨B2, hB2⟩ : ∃ A, A = sB2 := ⟨_, rfl⟩
  obtain ⟨Pk, hPk⟩ : ∃ A, A = sP := ⟨_, rfl⟩
  have eJ0 : openJ (conts D0) = J0 := by rw [hD0, hJ0]; rfl
  have eA1 : appendJ J0 D0 [97] = A1 := by rw [hD0, hJ0, hA1]; rfl
  have eA2 : appendJ A1.2.1 A1.2.2 (List.replicate 50 120) = A2 := by rw [hA1, hA2]; rfl
  have eR : A2.2.2.rot 1 70 = R := by rw [hA2, hR]; rfl
  have eK : openJ (conts R.2) = K := by rw [hR, hK]; rfl
  have eB1 : appendJ K R.2 [98] = B1 := by rw [hK, hR, hB1]; rfl
  have eB2 : appendJ B1.2.1 B1.2.2 [99] = B2 := by rw [hB1, hB2]; rfl
  have ePk : pack 1 [97] = Pk := by rw [hPk]; rfl
  rw [← hD0] at d0 l0 s15
  rw [← hJ0] at s1 s2
  rw [← hA1] at s3
  rw [← hA2] at s4 s5 s17
  rw [← hR] at s6 s16 s18
  rw [← hB1] at s7
  rw [← hB2] at s8 s9 s10 s11 s12
  rw [← hPk] at s13 s14
  have hrep := repeat_v
  have hpk := pack1_v
  have h64 := sP_64
  have hc49 : count 49 = 2 := by rw [show (49 : Int) = ((49 : Nat) : Int) from rfl, count_nat 49 (by omega)]; rfl
  have hc := count_v 49
  rw [hc49] at hc
  replace hc : PV F 11 [.int .i64 49] = some (.int .i64 2) := hc
  have hxl : (List.replicate 50 (120 : UInt8)).length ≤ 100000 := by simp
  obtain ⟨X, hX⟩ : ∃ X, X = List.replicate 50 (120 : UInt8) := ⟨_, rfl⟩
  rw [← hX] at hrep hxl eA2
  rw [← hPk] at hpk h64
  clear hX hD0 hJ0 hA1 hA2 hR hK hB1 hB2 hPk
  replace fx := Dum_eq
  (first | refine go ?_ | exact goC | skip); repeat' (first | refine gP ?_ | exact gPc | refine gN ?_ | exact gNc | (refine gI ?_ ?_ <;> intro hyp <;> first | refine goF ?_ | exact goFc | refine goT ?_ | exact goTc | skip))
  refine CV_mono (new_c 4 h (by omega)) ?_
  rintro v h1 ⟨d, b, p, w, rfl, P1, f1, u1⟩
  rw [d0] at P1
  replace fx := @pn
  (first | refine go ?_ | exact goC | skip); repeat' (first | refine gP ?_ | exact gPc | refine gN ?_ | exact gNc | (refine gI ?_ ?_ <;> intro hyp <;> first | refine goF ?_ | exact goFc | refine goT ?_ | exact goTc | skip))
  refine CV_mono (open_c P1 s15) ?_
  rintro v h2 ⟨j, t1, t2, t3, rfl, J2, P2, f2, u2⟩
  rw [eJ0] at J2
  have ok2 := openJ_ok (conts D0)
  rw [conts_len, eJ0] at ok2
  have n1 := cv_rw (next_c J2)
  have r1 := cv_rw (room_c J2 P2 ok2.fin)
  rw [s1, show ((1 : Nat) : Int) = 1 from rfl] at n1
  rw [s2, l0, show ((4 : Nat) : Int) - ((0 : Nat) : Int) = 4 from rfl] at r1
  have ih1 := P1.lt
  have sep2 : ∀ i, JS j t1 t2 t3 i → ¬ PS d b p w i := fun i q q' => by have := u2 i q; have := ih1 i q'; omega
  replace fx := aI @pn (aI @n1 @r1)
  (first | refine go ?_ | exact goC | skip); repeat' (first | refine gP ?_ | exact gPc | refine gN ?_ | exact gNc | (refine gI ?_ ?_ <;> intro hyp <;> first | refine goF ?_ | exact goFc | refine goT ?_ | exact goTc | skip))
  refine CV_mono (appended_c J2 P2 sep2 ok2 _ (by simp)) ?_
  rintro v h3 ⟨rfl, P3, f3, t1', t3', J3, u3⟩
  rw [eA1] at P3 J3
  obtain ⟨ok3, sl3⟩ := appendJ_ok (t := [97]) ok2
  rw [eA1] at ok3 sl3
  rw [← sl3] at ok3
  rw [eA1, s3]
  have ih2 := P2.lt
  have sep3 : ∀ i, JS j t1' t2 t3' i → ¬ PS d b p w i := fun i q q' => by
    rcases u3 i q with e | e
    · exact sep2 i e q'
    · have := ih2 i q'; omega
  replace fx := @hrep
  (first | refine go ?_ | exact goC | skip); repeat' (first | refine gP ?_ | exact gPc | refine gN ?_ | exact gNc | (refine gI ?_ ?_ <;> intro hyp <;> first | refine goF ?_ | exact goFc | refine goT ?_ | exact goTc | skip))
  refine CV_mono (appended_c J3 P3 sep3 ok3 _ (by omega)) ?_
  rintro v h4 ⟨rfl, P4, f4, t1'', t3'', J4, u4⟩
  rw [eA2] at P4 J4
  obtain ⟨ok4, sl4⟩ := appendJ_ok (t := X) ok3
  rw [eA2] at ok4 sl4
  rw [← sl4] at ok4
  rw [eA2, s4]
  have r4 := cv_rw (room_c J4 P4 ok4.fin)
  rw [s5, s17, show ((4 : Nat) : Int) - ((3 : Nat) : Int) = 1 from rfl] at r4
  replace fx := @r4
  (first | refine go ?_ | exact goC | skip); repeat' (first | refine gP ?_ | exact gPc | refine gN ?_ | exact gNc | (refine gI ?_ ?_ <;> intro hyp <;> first | refine goF ?_ | exact goFc | refine goT ?_ | exact goTc | skip))
  refine CV_mono (rot_c P4 1 70) ?_
  rintro v h5 ⟨rfl, P5, f5⟩
  rw [eR] at P5
  rw [eR, s6]
  replace fx := Dum_eq
  (first | refine go ?_ | exact goC | skip); repeat' (first | refine gP ?_ | exact gPc | refine gN ?_ | exact gNc | (refine gI ?_ ?_ <;> intro hyp <;> first | refine goF ?_ | exact goFc | refine goT ?_ | exact goTc | skip))
  refine CV_mono (open_c P5 s16) ?_
  rintro v h6 ⟨j', y1, y2, y3, rfl, J6, P6, f6, u6⟩
  rw [eK] at J6
  have ok6 := openJ_ok (conts R.2)
  rw [conts_len, eK] at ok6
  have ih5 := P5.lt
  have sep6 : ∀ i, JS j' y1 y2 y3 i → ¬ PS d b p w i := fun i q q' => by have := u6 i q; have := ih5 i q'; omega
  replace fx := @pn
  (first | refine go ?_ | exact goC | skip); repeat' (first | refine gP ?_ | exact gPc | refine gN ?_ | exact gNc | (refine gI ?_ ?_ <;> intro hyp <;> first | refine goF ?_ | exact goFc | refine goT ?_ | exact goTc | skip))
  refine CV_mono (appended_c J6 P6 sep6 ok6 _ (by simp)) ?_
  rintro v h7 ⟨rfl, P7, f7, z1, z3, J7, u7⟩
  rw [eB1] at P7 J7
  obtain ⟨ok7, sl7⟩ := appendJ_ok (t := [98]) ok6
  rw [eB1] at ok7 sl7
  rw [← sl7] at ok7
  rw [eB1, s7]
  have ih6 := P6.lt
  have sep7 : ∀ i, JS j' z1 y2 z3 i → ¬ PS d b p w i := fun i q q' => by
    rcases u7 i q with e | e
    · exact sep6 i e q'
    · have := ih6 i q'; omega
  replace fx := Dum_eq
  (first | refine go ?_ | exact goC | skip); repeat' (first | refine gP ?_ | exact gPc | refine gN ?_ | exact gNc | (refine gI ?_ ?_ <;> intro hyp <;> first | refine goF ?_ | exact goFc | refine goT ?_ | exact goTc | skip))
  refine CV_mono (appended_c J7 P7 sep7 ok7 _ (by simp)) ?_
  rintro v h8 ⟨rfl, P8, f8, z1', z3', J8, u8⟩
  rw [eB2] at P8 J8
  obtain ⟨ok8, sl8⟩ := appendJ_ok (t := [99]) ok7
  rw [eB2] at ok8 sl8
  rw [eB2, s8]
  have hup := Unpack_v (nth Pk 0) h64
  rw [s14] at hup
  replace hup : PV F 8 [.str (nth Pk 0)] = some (.tup [.int .i64 1, .int .i64 0, .int .i64 1, .str [97], .bool true]) := hup
  have hP1 : Pk.length = 1 := s13
  have hP2 : (Pk.length : Int) = 1 := by rw [hP1]; rfl
  replace fx := aI @hpk (aI @hP2 (aI @strV_eq @hup))
  (first | refine go ?_ | exact goC | skip); repeat' (first | refine gP ?_ | exact gPc | refine gN ?_ | exact gNc | (refine gI ?_ ?_ <;> intro hyp <;> first | refine goF ?_ | exact goFc | refine goT ?_ | exact goTc | skip))
  have nl := ok8.nl
  have tl := ok8.tl
  have bl := ok8.bad
  have w1 := ok8.n1
  have w2 := ok8.n2
  have w3 := ok8.nums
  have w4 : B1.2.2.s.length ≤ 4096 := P7.ok.len
  refine CV_mono (numbers_c J8 (by omega)) ?_
  rintro v h9 ⟨c9, f9⟩
  refine GK_fr f9 ?_
  have J9 := J8.fr f9 (fun _ _ q => q)
  replace fx := Dum_eq
  (first | refine go ?_ | exact goC | skip); repeat' (first | refine gP ?_ | exact gPc | refine gN ?_ | exact gNc | (refine gI ?_ ?_ <;> intro hyp <;> first | refine goF ?_ | exact goFc | refine goT ?_ | exact goTc | skip))
  refine pc_one (ys := ([1, 3] : List Nat).map intN) (puI_of c9) (sameInts_p _ [1, 3] (by omega)) ?_
  rw [decide_eq_true s9]
  replace fx := Dum_eq
  (first | refine go ?_ | exact goC | skip); repeat' (first | refine gP ?_ | exact gPc | refine gN ?_ | exact gNc | (refine gI ?_ ?_ <;> intro hyp <;> first | refine goF ?_ | exact goFc | refine goT ?_ | exact goTc | skip))
  refine CV_mono (texts_c J9 (by omega)) ?_
  rintro v h10 ⟨c10, f10⟩
  refine GK_fr f10 ?_
  have J10 := J9.fr f10 (fun _ _ q => q)
  replace fx := Dum_eq
  (first | refine go ?_ | exact goC | skip); repeat' (first | refine gP ?_ | exact gPc | refine gN ?_ | exact gNc | (refine gI ?_ ?_ <;> intro hyp <;> first | refine goF ?_ | exact goFc | refine goT ?_ | exact goTc | skip))
  refine pc_one (ys := ([[97], [98]] : List Bs).map strV) (puS_of c10) (sameTexts_p _ [[97], [98]] (by omega)) ?_
  rw [decide_eq_true s10]
  replace fx := Dum_eq
  (first | refine go ?_ | exact goC | skip); repeat' (first | refine gP ?_ | exact gPc | refine gN ?_ | exact gNc | (refine gI ?_ ?_ <;> intro hyp <;> first | refine goF ?_ | exact goFc | refine goT ?_ | exact goTc | skip))
  refine CV_mono (damaged_c J10 (by omega) (by omega) (fun x hx => by have := w3 x hx; omega) w1) ?_
  rintro v h11 ⟨tk11, rfl, f11⟩
  refine GK_fr f11 ?_
  have J11 := J10.fr f11 (fun _ _ q => q)
  rw [s11]
  replace fx := Dum_eq
  (first | refine go ?_ | exact goC | skip); repeat' (first | refine gP ?_ | exact gPc | refine gN ?_ | exact gNc | (refine gI ?_ ?_ <;> intro hyp <;> first | refine goF ?_ | exact goFc | refine goT ?_ | exact goTc | skip))
  refine pc_one (xs := ([2] : List Nat).map intN) (ys := ([2] : List Nat).map intN) (Pu.sl _ _ _) (sameInts_p [2] [2] (by simp)) ?_
  rw [decide_eq_true rfl]
  replace fx := Dum_eq
  (first | refine go ?_ | exact goC | skip); repeat' (first | refine gP ?_ | exact gPc | refine gN ?_ | exact gNc | (refine gI ?_ ?_ <;> intro hyp <;> first | refine goF ?_ | exact goFc | refine goT ?_ | exact goTc | skip))
  refine CV_mono (bad_c J11 (by omega)) ?_
  rintro v h12 ⟨c12, f12⟩
  refine GK_fr f12 ?_
  replace fx := Dum_eq
  (first | refine go ?_ | exact goC | skip); repeat' (first | refine gP ?_ | exact gPc | refine gN ?_ | exact gNc | (refine gI ?_ ?_ <;> intro hyp <;> first | refine goF ?_ | exact goFc | refine goT ?_ | exact goTc | skip))
  refine pc_one (ys := ([1] : List Nat).map intN) (puI_of c12) (sameInts_p _ [1] (by omega)) ?_
  rw [decide_eq_true s12]
  replace fx := @hc
  (first | refine go ?_ | exact goC | skip); repeat' (first | refine gP ?_ | exact gPc | refine gN ?_ | exact gNc | (refine gI ?_ ?_ <;> intro hyp <;> first | refine goF ?_ | exact goFc | refine goT ?_ | exact goTc | skip))
  have F2 : Fr (fun _ => False) h h2 := f1.trans f2
  have v2 : ∀ i, JS j t1 t2 t3 i → h.next ≤ i := fun i q => Nat.le_trans f1.1 (u2 i q)
  have F3 : Fr (fun _ => False) h h3 := F2.past f3 (fun i q => q.elim (v2 i) (u1 i))
  have v3 : ∀ i, JS j t1' t2 t3' i → h.next ≤ i := fun i q => (u3 i q).elim (v2 i) (Nat.le_trans F2.1)
  have F4 : Fr (fun _ => False) h h4 := F3.past f4 (fun i q => q.elim (v3 i) (u1 i))
  have F5 : Fr (fun _ => False) h h5 := F4.past f5 u1
  have F6 : Fr (fun _ => False) h h6 := F5.trans f6
  have v6 : ∀ i, JS j' y1 y2 y3 i → h.next ≤ i := fun i q => Nat.le_trans F5.1 (u6 i q)
  have F7 : Fr (fun _ => False) h h7 := F6.past f7 (fun i q => q.elim (v6 i) (u1 i))
  have v7 : ∀ i, JS j' z1 y2 z3 i → h.next ≤ i := fun i q => (u7 i q).elim (v6 i) (Nat.le_trans F6.1)
  have F8 : Fr (fun _ => False) h h8 := F7.past f8 (fun i q => q.elim (v7 i) (u1 i))
  exact (((F8.trans f9).trans f10).trans f11).trans f12
end Go.Proofs.YtjofjgflcogklaaDoor

namespace Go.Proofs.YtjofjgflcogklaaDoor
open Go Go.Abs Go.Sha Go.Jn
theorem stpL (o : Stp) : o.val.cells.length = 6 := rfl
theorem stpT (o : Stp) : AVal.agg (List.take 6 o.val.cells) = o.val := rfl
theorem stpS (o : Stp) : setCells [.int .i64 0, .int .i64 0, .int .i64 0, .int .i64 0, .int .u8 0, .sl [] .nil] 0 o.val.cells = o.cells := rfl
theorem stpL' (o : Stp) : 6 ≤ o.cells.length := Nat.le_refl _
theorem stpT' (o : Stp) : AVal.agg (List.take 6 o.cells) = o.val := rfl
theorem stpH (o : Stp) : (List.take 6 o.cells) = o.cells := rfl
theorem toI_byte (b : UInt8) : toIntA .i64 (byteV b) = some (.int .i64 (b.toNat : Int)) := by
  have hb := b.toNat_lt
  have : IntKind.i64.wrap (b.toNat : Int) = (b.toNat : Int) := wrap_in64 (by omega) (by omega)
  simp only [byteV, toIntA, this]
theorem byte1 (b : UInt8) : 1 ≤ (byteV b).cells.length := by simp [byteV, AVal.cells]
theorem byteM (b : UInt8) : mk false (List.take 1 (byteV b).cells) = some (byteV b) := rfl
structure GoI (h : Heap) (d b p w j : Nat) (t1 t2 t3 tN tT : Abs.Tok) (J : Jst) (E : Dsk) (S : List (Seg × Bool)) (last : Nat) : Prop where
  pd : PD h d b p w E
  pj : PJ h j d t1 t2 t3 J
  inv : GInv S J E
  ok : JOk J E.s.length
  gN : GrN h 3 1 J.nums tN
  gT : GrN h 9 1 J.texts tT
  sep : ∀ i, JS j t1 t2 t3 i → ¬ PS d b p w i
  sN : ∀ i s, tN = .own i s → ¬ JS j t1 t2 t3 i ∧ ¬ PS d b p w i
  sT : ∀ i s, tT = .own i s → ¬ JS j t1 t2 t3 i ∧ ¬ PS d b p w i
  sNT : ∀ i s s', tN = .own i s → tT ≠ .own i s'
  last : last < J.next
theorem GoI.fr {h h' : Heap} {d b p w j : Nat} {t1 t2 t3 tN tT : Abs.Tok} {J : Jst} {E : Dsk} {S : List (Seg × Bool)} {last : Nat} (g : GoI h d b p w j t1 t2 t3 tN tT J E S last) (f : Fr (fun _ => False) h h') : GoI h' d b p w j t1 t2 t3 tN tT J E S last :=
  ⟨g.pd.fr f (fun _ _ q => q), g.pj.fr f (fun _ _ q => q), g.inv, g.ok, g.gN.fr f (fun _ _ _ q => q), g.gT.fr f (fun _ _ _ q => q), g.sep, g.sN, g.sT, g.sNT, g.last⟩
theorem Stp.strip {o : Stp} (h : o.ok) : Go.Abs.strip o.val = some o.val := by
  obtain ⟨k, i, b, s, f, pk, tk⟩ := o
  rcases h.tk with q | ⟨q, q2⟩
  · simp only at q; subst q; rfl
  · simp only at q q2; subst q; subst q2; rfl
theorem PJ_lt {h : Heap} {j d : Nat} {t1 t2 t3 : Abs.Tok} {J : Jst} (g : PJ h j d t1 t2 t3 J) : ∀ i, JS j t1 t2 t3 i → i < h.next := by
  rintro i (rfl | ⟨s, e⟩ | ⟨s, e⟩ | ⟨s, e⟩)
  · exact get_lt g.row
  · exact g.tk.g1.lt e
  · exact g.tk.g2.lt e
  · exact g.tk.g3.lt e
theorem GoI.next {h h' : Heap} {d b p w j : Nat} {t1 t2 t3 tN tT t1' t3' : Abs.Tok} {J : Jst} {E : Dsk} {S : List (Seg × Bool)} {last : Nat} (g : GoI h d b p w j t1 t2 t3 tN tT J E S last) {J' : Jst} {E' : Dsk} {S' : List (Seg × Bool)}
    (P : PD h' d b p w E') (Q : PJ h' j d t1' t2 t3' J') (f : Fr (fun i => JS j t1 t2 t3 i ∨ PS d b p w i) h h') (u : ∀ i, JS j t1' t2 t3' i → JS j t1 t2 t3 i ∨ h.next ≤ i) (inv : GInv S' J' E') (ok : JOk J' E'.s.length) (hl : last < J'.next) :
    GrN h' 3 1 J.nums tN ∧ GrN h' 9 1 J.texts tT ∧ (∀ i, JS j t1' t2 t3' i → ¬ PS d b p w i) ∧ (∀ i s, tN = .own i s → ¬ JS j t1' t2 t3' i ∧ ¬ PS d b p w i) ∧ (∀ i s, tT = .own i s → ¬ JS j t1' t2 t3' i ∧ ¬ PS d b p w i) := by
  have lt := g.pd.lt
  refine ⟨g.gN.fr f fun i s e q => ?_, g.gT.fr f fun i s e q => ?_, fun i q q' => ?_, fun i s e => ⟨fun q => ?_, (g.sN i s e).2⟩, fun i s e => ⟨fun q => ?_, (g.sT i s e).2⟩⟩
  · exact q.elim (g.sN i s e).1 (g.sN i s e).2
  · exact q.elim (g.sT i s e).1 (g.sT i s e).2
  · rcases u i q with r | r
    · exact g.sep i r q'
    · have := lt i q'; omega
  · rcases u i q with r | r
    · exact (g.sN i s e).1 r
    · have := g.gN.lt e; omega
  · rcases u i q with r | r
    · exact (g.sT i s e).1 r
    · have := g.gT.lt e; omega
theorem goesOn_c (n : Int) (hn : -9223372036854775808 ≤ n ∧ n < 9223372036854775808) (l : List Stp) (tk : Tok) (ws : List UInt8) (tkw : Tok) (hl : ∀ o ∈ l, o.ok) (hll : l.length ≤ 9223372036854775807) (hwl : ws.length ≤ 9223372036854775807) :
    CV F 4 [.int .i64 n, .sl (l.map Stp.val) tk, .sl (ws.map byteV) tkw] Heap.empty (fun v _ => v = .bool true) := by
  refine CV_wp (fn := c4) rfl ?_
  dsimp only [c4]
  by_cases h0 : 200 < n ∨ 20 < l.length ∨ 8 < ws.length
  · by_cases h1 : 200 < n
    · replace fx := Dum_eq
      (first | refine go ?_ | exact goC | skip); repeat' (first | refine gP ?_ | exact gPc | refine gN ?_ | exact gNc | (refine gI ?_ ?_ <;> intro hyp <;> first | refine goF ?_ | exact goFc | refine goT ?_ | exact goTc | skip))
      refine CV_mono (sanity_c _) ?_
      rintro v h1 ⟨rfl, _⟩
      replace fx := Dum_eq
      (first | refine go ?_ | exact goC | skip); repeat' (first | refine gP ?_ | exact gPc | refine gN ?_ | exact gNc | (refine gI ?_ ?_ <;> intro hyp <;> first | refine goF ?_ | exact goFc | refine goT ?_ | exact goTc | skip))
    · by_cases h2 : 20 < l.length
      · replace fx := Dum_eq
        (first | refine go ?_ | exact goC | skip); repeat' (first | refine gP ?_ | exact gPc | refine gN ?_ | exact gNc | (refine gI ?_ ?_ <;> intro hyp <;> first | refine goF ?_ | exact goFc | refine goT ?_ | exact goTc | skip))
        refine CV_mono (sanity_c _) ?_
        rintro v h1 ⟨rfl, _⟩
        replace fx := Dum_eq
        (first | refine go ?_ | exact goC | skip); repeat' (first | refine gP ?_ | exact gPc | refine gN ?_ | exact gNc | (refine gI ?_ ?_ <;> intro hyp <;> first | refine goF ?_ | exact goFc | refine goT ?_ | exact goTc | skip))
      · have h3 : 8 < ws.length := by omega
        replace fx := Dum_eq
        (first | refine go ?_ | exact goC | skip); repeat' (first | refine gP ?_ | exact gPc | refine gN ?_ | exact gNc | (refine gI ?_ ?_ <;> intro hyp <;> first | refine goF ?_ | exact goFc | refine goT ?_ | exact goTc | skip))
        refine CV_mono (sanity_c _) ?_
        rintro v h1 ⟨rfl, _⟩
        replace fx := Dum_eq
        (first | refine go ?_ | exact goC | skip); repeat' (first | refine gP ?_ | exact gPc | refine gN ?_ | exact gNc | (refine gI ?_ ?_ <;> intro hyp <;> first | refine goF ?_ | exact goFc | refine goT ?_ | exact goTc | skip))
  · have h200 : ¬ 200 < n := by omega
    have h20 : ¬ 20 < l.length := by omega
    have h8 : ¬ 8 < ws.length := by omega
    by_cases hn1 : n < 1
    · replace fx := Dum_eq
      (first | refine go ?_ | exact goC | skip); repeat' (first | refine gP ?_ | exact gPc | refine gN ?_ | exact gNc | (refine gI ?_ ?_ <;> intro hyp <;> first | refine goF ?_ | exact goFc | refine goT ?_ | exact goTc | skip))
      refine CV_mono (new_bad n _ (by omega)) ?_
      rintro v h1 ⟨rfl, rfl⟩
      replace fx := Dum_eq
      (first | refine go ?_ | exact goC | skip); repeat' (first | refine gP ?_ | exact gPc | refine gN ?_ | exact gNc | (refine gI ?_ ?_ <;> intro hyp <;> first | refine goF ?_ | exact goFc | refine goT ?_ | exact goTc | skip))
      refine CV_mono (sanity_c _) ?_
      rintro v h1 ⟨rfl, _⟩
      replace fx := Dum_eq
      (first | refine go ?_ | exact goC | skip); repeat' (first | refine gP ?_ | exact gPc | refine gN ?_ | exact gNc | (refine gI ?_ ?_ <;> intro hyp <;> first | refine goF ?_ | exact goFc | refine goT ?_ | exact goTc | skip))
      exact hn1
    · replace fx := Dum_eq
      (first | refine go ?_ | exact goC | skip); repeat' (first | refine gP ?_ | exact gPc | refine gN ?_ | exact gNc | (refine gI ?_ ?_ <;> intro hyp <;> first | refine goF ?_ | exact goFc | refine goT ?_ | exact goTc | skip))
      refine CV_mono (new_c n _ (by omega)) ?_
      rintro v h1 ⟨d, b, p, w, rfl, P1, f1, u1⟩
      have V1 := virgin_fresh n.toNat
      replace fx := Dum_eq
      (first | refine go ?_ | exact goC | skip); repeat' (first | refine gP ?_ | exact gPc | refine gN ?_ | exact gNc | (refine gI ?_ ?_ <;> intro hyp <;> first | refine goF ?_ | exact goFc | refine goT ?_ | exact goTc | skip))
      refine w_loop (fun q vs h' => ∃ (k : Nat) (E : Dsk) (x1 x2 x3 x4 x5 x6 x7 x8 x9 x10 x11 x12 x13 x14 x15 x16 x17 x18 x19 x20 x21 x22 x23 : AVal), q = ws.length - k ∧ k ≤ ws.length ∧ vs = [.int .i64 n, .sl (l.map Stp.val) tk, .sl (ws.map byteV) tkw, .bool false, .ptr d 0, .int .i64 0, x1, x2, x3, x4, x5, x6, x7, x8, x9, x10, x11, x12, x13, .sl (ws.map byteV) tkw, .int .i64 (ws.length : Int), .int .i64 (k : Int), x14, x15, x16, x17, x18, x19, x20, x21, x22, x23] ∧
          PD h' d b p w E ∧ Virgin n.toNat E) ws.length
        ⟨0, _, _, _, _, _, _, _, _, _, _, _, _, _, _, _, _, _, _, _, _, _, _, _, _, rfl, by omega, rfl, P1, V1⟩ ?_
      rintro q vs h2 ⟨k, E, x1, x2, x3, x4, x5, x6, x7, x8, x9, x10, x11, x12, x13, x14, x15, x16, x17, x18, x19, x20, x21, x22, x23, rfl, hk, rfl, P2, V2⟩
      by_cases hkl : k < ws.length
      · replace fx := aI @toI_byte (aI @byte1 @byteM)
        (first | refine go ?_ | exact goC | skip); repeat' (first | refine gP ?_ | exact gPc | refine gN ?_ | exact gNc | (refine gI ?_ ?_ <;> intro hyp <;> first | refine goF ?_ | exact goFc | refine goT ?_ | exact goTc | skip))
        refine CV_mono (wear_c P2 _) ?_
        rintro v h3 ⟨rfl, P3, f3⟩
        replace fx := Dum_eq
        (first | refine go ?_ | exact goC | skip); repeat' (first | refine gP ?_ | exact gPc | refine gN ?_ | exact gNc | (refine gI ?_ ?_ <;> intro hyp <;> first | refine goF ?_ | exact goFc | refine goT ?_ | exact goTc | skip))
        exact lp_n ⟨_, by omega, k + 1, _, _, _, _, _, _, _, _, _, _, _, _, _, _, _, _, _, _, _, _, _, _, _, _, rfl, by omega, by push_cast; rfl, P3, V2.wear _⟩
      · replace fx := Dum_eq
        (first | refine go ?_ | exact goC | skip); repeat' (first | refine gP ?_ | exact gPc | refine gN ?_ | exact gNc | (refine gI ?_ ?_ <;> intro hyp <;> first | refine goF ?_ | exact goFc | refine goT ?_ | exact goTc | skip))
        refine CV_mono (open_c P2 V2.off) ?_
        rintro v h3 ⟨j, t1, t2, t3, rfl, J3, P3, f3, v3⟩
        have ok3 := openJ_ok (conts E)
        rw [V2.opened] at J3
        rw [conts_len, V2.opened] at ok3
        have lt2 := P2.lt
        have I3 : GoI h3 d b p w j t1 t2 t3 .nil .nil ⟨[], [], 1, 0, false⟩ E [] 0 := ⟨P3, J3, V2.inv, ok3, GrN.nil _ _ _, GrN.nil _ _ _, fun i q q' => by have := v3 i q; have := lt2 i q'; omega, by simp, by simp, by simp, by simp⟩
        clear J3 P3 P1 V1 f1
        have pn : ∀ i o, binA .eql .ptr (.ptr i o) .nilptr = some (.bool false) := fun _ _ => rfl
        replace fx := @pn
        (first | refine go ?_ | exact goC | skip); repeat' (first | refine gP ?_ | exact gPc | refine gN ?_ | exact gNc | (refine gI ?_ ?_ <;> intro hyp <;> first | refine goF ?_ | exact goFc | refine goT ?_ | exact goTc | skip))
        refine w_loop (fun q vs h' => ∃ (k : Nat) (E : Dsk) (J : Jst) (S : List (Seg × Bool)) (t1 t3 tN tT : Abs.Tok) (last : Nat) (x1 x2 x3 x4 x5 x6 x7 x8 x9 x10 x11 x12 x13 x14 x15 x16 x17 x18 : AVal), q = l.length - k ∧ k ≤ l.length ∧ vs = [.int .i64 n, .sl (l.map Stp.val) tk, .sl (ws.map byteV) tkw, .bool false, .ptr d 0, .int .i64 0, x1, .ptr j 0, .int .i64 0, .sl (J.nums.map intN) tN, .sl (J.texts.map strV) tT, .int .i64 (last : Int), x2, x3, x4, x5, x6, x7, x8, x9, x10, x11, x12, x13, .sl (l.map Stp.val) tk, .int .i64 (l.length : Int), .int .i64 (k : Int), x14, x15, x16, x17, x18] ∧
            GoI h' d b p w j t1 t2 t3 tN tT J E S last ∧ E.s.length = n.toNat) l.length
          ⟨0, _, _, _, _, _, _, _, 0, _, _, _, _, _, _, _, _, _, _, _, _, _, _, _, _, _, _, rfl, by omega, rfl, I3, V2.len⟩ ?_
        clear I3 ok3 v3 f3
        rintro q vs h4 ⟨k, E, J, S, t1, t3, tN, tT, last, x1, x2, x3, x4, x5, x6, x7, x8, x9, x10, x11, x12, x13, x14, x15, x16, x17, x18, rfl, hk, rfl, I4, len4⟩
        by_cases hkl : k < l.length
        · have hok := hl _ (nth_mem hkl)
          generalize hno : nth l k = o at hok
          have st := stext_v o
          have ss := Stp.strip hok
          have otl := o.text_len
          replace fx := aI @hno (aI @stpL (aI @stpT (aI @stpS (aI @stpL' (aI @stpT' (aI @st @ss))))))
          (first | refine go ?_ | exact goC | skip); repeat' (first | refine gP ?_ | exact gPc | refine gN ?_ | exact gNc | (refine gI ?_ ?_ <;> intro hyp <;> first | refine goF ?_ | exact goFc | refine goT ?_ | exact goTc | skip))
          have fA : Fr (fun _ => False) h4 (h4.push (Obj.row true (typed 46) true o.cells)) := (Fr.refl _ _).push _
          have gx : (h4.push (Obj.row true (typed 46) true o.cells)).get h4.next = some (Obj.row true (typed 46) true o.cells) := get_push_eq rfl
          have I5 := I4.fr fA
          have nx : ∀ i, JS j t1 t2 t3 i ∨ PS d b p w i → i ≠ h4.next := fun i q e => by
            rcases q with q | q
            · have := PJ_lt I4.pj i q; omega
            · have := I4.pd.lt i q; omega
          generalize (h4.push (Obj.row true (typed 46) true o.cells)) = h5 at fA gx I5 ⊢
          refine CV_mono (appended_c I5.pj I5.pd I5.sep I5.ok o.text (by omega)) ?_
          rintro v h6 ⟨rfl, P6, f6, t1', t3', J6, u6⟩
          obtain ⟨ok6, sl6⟩ := appendJ_ok (t := o.text) I5.ok
          obtain ⟨⟨⟨N5, C5⟩, ⟨J', E'⟩⟩, hA⟩ : ∃ A, A = appendJ J E o.text := ⟨_, rfl⟩
          rw [← hA] at P6 J6 ok6 sl6 ⊢
          dsimp only at P6 J6 ok6 sl6 ⊢
          rw [← sl6] at ok6
          obtain ⟨⟨S', inv6⟩, sl6', hcase⟩ := I5.inv.step o.text C5 J' E' N5 hA.symm
          have gx6 := f6.get gx (fun q => nx _ q rfl)
          rcases hcase with ⟨rfl, rfl, hr, hnx⟩ | ⟨rfl, hC, hr, hnx⟩
          · have hlast : ¬ (J.next : Int) ≤ (last : Int) := by have := I5.last; omega
            obtain ⟨a1, a2, a3, a4, a5⟩ := I5.next P6 J6 f6 u6 inv6 ok6 (by have := I5.last; omega)
            have nl := I5.ok.nl
            have tl := I5.ok.tl
            have w2 := I5.ok.n2
            have w4 := I5.pd.ok.len
            have lbN : ∀ H, litA 0 3 1 1 false [.int .i64 0] (some [.int .i64 (J.next : Int)]) H = some (.sl [intN J.next] .none, H) := fun H => lit_none rfl rfl rfl rfl
            have lbT : ∀ H, litA 0 9 1 1 false [.str []] (some [.str o.text]) H = some (.sl [strV o.text] .none, H) := fun H => lit_none rfl rfl rfl rfl
            obtain ⟨h7, e7, n7, k7, o7⟩ := append_N (bytes := 8) (ag := false) (f := intN) (y := .sl ([J.next].map intN) .none) (ys := [J.next]) intN_len (fun _ => rfl) (fun _ => rfl) lenA_sl (elems_sl intN_len) a1 (by simp; omega) (by omega) (by omega) (by omega) (by simp)
            have a2' : GrN h7 9 1 J.texts tT := a2.keep fun i hi ⟨s, e⟩ => (o7 i (get_lt hi) (fun i' s' e' r => by subst r; exact I5.sNT _ _ _ e' e)).trans hi
            obtain ⟨h8, e8, n8, k8, o8⟩ := append_N (bytes := 16) (ag := false) (f := strV) (y := .sl ([o.text].map strV) .none) (ys := [o.text]) str_len (fun _ => rfl) (fun _ => rfl) lenA_sl (elems_sl str_len) a2' (by simp; omega) (by omega) (by omega) (by omega) (by simp)
            have gx7 := (o7 h4.next (get_lt gx6) (fun i s e r => by have := I4.gN.lt e; omega)).trans gx6
            simp only [List.map_cons, List.map_nil] at e7 e8
            replace fx := aI @stpL' (aI @stpT' (aI @st (aI @ss (aI @lbN (aI @lbT (aI @e7 (aI @e8 (aI @hlast (aI @gx6 @gx7)))))))))
            (first | refine go ?_ | exact goC | skip); repeat' (first | refine gP ?_ | exact gPc | refine gN ?_ | exact gNc | (refine gI ?_ ?_ <;> intro hyp <;> first | refine goF ?_ | exact goFc | refine goT ?_ | exact goTc | skip))
            have F7 : Fr (fun i => ∃ s, tN = .own i s) h6 h7 := ⟨by omega, fun i hi hs => o7 i hi (fun i' s e r => hs ⟨s, by rw [r]; exact e⟩)⟩
            have F8 : Fr (fun i => ∃ s, tT = .own i s) h7 h8 := ⟨by omega, fun i hi hs => o8 i hi (fun i' s e r => hs ⟨s, by rw [r]; exact e⟩)⟩
            have hN : J'.nums = J.nums ++ [J.next] := by rw [Jst.nums, hr, List.map_append]; rfl
            have hT : J'.texts = J.texts ++ [o.text] := by rw [Jst.texts, hr, List.map_append]; rfl
            have ltJ := PJ_lt J6
            have ltP := P6.lt
            have I8 : GoI h8 d b p w j t1' t2 t3' (.own h6.next 1) (.own h7.next 1) J' E' S' J.next :=
              ⟨(P6.fr F7 (fun i q ⟨s, e⟩ => (a4 i s e).2 q)).fr F8 (fun i q ⟨s, e⟩ => (a5 i s e).2 q), (J6.fr F7 (fun i q ⟨s, e⟩ => (a4 i s e).1 q)).fr F8 (fun i q ⟨s, e⟩ => (a5 i s e).1 q), inv6, ok6,
                .inr ⟨_, rfl, (o8 _ (by omega) (fun i s e r => by have := a2.lt e; omega)).trans k7⟩, .inr ⟨_, rfl, k8⟩, a3,
                fun i s e => by
                  simp only [Tok.own.injEq] at e
                  exact ⟨fun q => by have := ltJ i q; omega, fun q => by have := ltP i q; omega⟩,
                fun i s e => by
                  simp only [Tok.own.injEq] at e
                  exact ⟨fun q => by have := ltJ i q; omega, fun q => by have := ltP i q; omega⟩,
                fun i s s' e e' => by
                  simp only [Tok.own.injEq] at e e'
                  omega, by omega⟩
            exact lp_n ⟨_, by omega, k + 1, _, _, _, _, _, _, _, J.next, _, _, _, _, _, _, _, _, _, _, _, _, _, _, _, _, _, _, rfl, by omega, by rw [hN, hT]; push_cast; rfl, I8, by omega⟩
          · have I6 : GoI h6 d b p w j t1' t2 t3' tN tT J' E' S' last := by
              obtain ⟨a1, a2, a3, a4, a5⟩ := I5.next P6 J6 f6 u6 inv6 ok6 (by have := I5.last; omega)
              have hN : J'.nums = J.nums := by rw [Jst.nums, hr]; rfl
              have hT : J'.texts = J.texts := by rw [Jst.texts, hr]; rfl
              exact ⟨P6, J6, inv6, ok6, by rw [hN]; exact a1, by rw [hT]; exact a2, a3, a4, a5, I5.sNT, by have := I5.last; omega⟩
            have hN : J.nums = J'.nums := by rw [Jst.nums, Jst.nums, hr]
            have hT : J.texts = J'.texts := by rw [Jst.texts, Jst.texts, hr]
            rw [hN, hT]
            rcases hC with rfl | rfl | rfl
            all_goals
              replace fx := Dum_eq
              (first | refine go ?_ | exact goC | skip); repeat' (first | refine gP ?_ | exact gPc | refine gN ?_ | exact gNc | (refine gI ?_ ?_ <;> intro hyp <;> first | refine goF ?_ | exact goFc | refine goT ?_ | exact goTc | skip))
              exact lp_n ⟨_, by omega, k + 1, _, _, _, _, _, _, _, last, _, _, _, _, _, _, _, _, _, _, _, _, _, _, _, _, _, _, rfl, by omega, by push_cast; rfl, I6, by omega⟩
        · replace fx := Dum_eq
          (first | refine go ?_ | exact goC | skip); repeat' (first | refine gP ?_ | exact gPc | refine gN ?_ | exact gNc | (refine gI ?_ ?_ <;> intro hyp <;> first | refine goF ?_ | exact goFc | refine goT ?_ | exact goTc | skip))
          refine CV_mono (open_c I4.pd I4.inv.off) ?_
          rintro v h5 ⟨j', y1, y2, y3, rfl, J5, P5, f5, v5⟩
          have I5 := I4.fr f5
          replace fx := Dum_eq
          (first | refine go ?_ | exact goC | skip); repeat' (first | refine gP ?_ | exact gPc | refine gN ?_ | exact gNc | (refine gI ?_ ?_ <;> intro hyp <;> first | refine goF ?_ | exact goFc | refine goT ?_ | exact goTc | skip))
          refine CV_mono (sanity_c _) ?_
          rintro v h6 ⟨rfl, f6⟩
          have I6 := I5.fr f6
          have J6 := J5.fr f6 (fun _ _ q => q)
          have nl := I4.ok.nl
          have tl := I4.ok.tl
          have w2 := I4.ok.n2
          have w4 := I4.pd.ok.len
          have hN : (openJ (conts E)).nums = J.nums := by rw [Jst.nums, I4.inv.found]; rfl
          have hT : (openJ (conts E)).texts = J.texts := by rw [Jst.texts, I4.inv.found]; rfl
          replace fx := Dum_eq
          (first | refine go ?_ | exact goC | skip); repeat' (first | refine gP ?_ | exact gPc | refine gN ?_ | exact gNc | (refine gI ?_ ?_ <;> intro hyp <;> first | refine goF ?_ | exact goFc | refine goT ?_ | exact goTc | skip))
          refine CV_mono (numbers_c I6.pj (by omega)) ?_
          rintro v h7 ⟨c7, f7⟩
          refine GK_fr f7 ?_
          have I7 := I6.fr f7
          have J7 := J6.fr f7 (fun _ _ q => q)
          replace fx := Dum_eq
          (first | refine go ?_ | exact goC | skip); repeat' (first | refine gP ?_ | exact gPc | refine gN ?_ | exact gNc | (refine gI ?_ ?_ <;> intro hyp <;> first | refine goF ?_ | exact goFc | refine goT ?_ | exact goTc | skip))
          refine pc_two (ys := J.nums.map intN) (puI_of c7) (Pu.sl _ _ _) (sameInts_p _ _ (by omega)) ?_
          rw [decide_eq_true rfl]
          replace fx := Dum_eq
          (first | refine go ?_ | exact goC | skip); repeat' (first | refine gP ?_ | exact gPc | refine gN ?_ | exact gNc | (refine gI ?_ ?_ <;> intro hyp <;> first | refine goF ?_ | exact goFc | refine goT ?_ | exact goTc | skip))
          refine CV_mono (texts_c I7.pj (by omega)) ?_
          rintro v h8 ⟨c8, f8⟩
          refine GK_fr f8 ?_
          have I8 := I7.fr f8
          have J8 := J7.fr f8 (fun _ _ q => q)
          replace fx := Dum_eq
          (first | refine go ?_ | exact goC | skip); repeat' (first | refine gP ?_ | exact gPc | refine gN ?_ | exact gNc | (refine gI ?_ ?_ <;> intro hyp <;> first | refine goF ?_ | exact goFc | refine goT ?_ | exact goTc | skip))
          refine pc_two (ys := J.texts.map strV) (puS_of c8) (Pu.sl _ _ _) (sameTexts_p _ _ (by omega)) ?_
          rw [decide_eq_true rfl]
          replace fx := Dum_eq
          (first | refine go ?_ | exact goC | skip); repeat' (first | refine gP ?_ | exact gPc | refine gN ?_ | exact gNc | (refine gI ?_ ?_ <;> intro hyp <;> first | refine goF ?_ | exact goFc | refine goT ?_ | exact goTc | skip))
          refine CV_mono (numbers_c J8 (by rw [hN]; omega)) ?_
          rintro v h9 ⟨c9, f9⟩
          rw [hN] at c9
          refine GK_fr f9 ?_
          have I9 := I8.fr f9
          have J9 := J8.fr f9 (fun _ _ q => q)
          replace fx := Dum_eq
          (first | refine go ?_ | exact goC | skip); repeat' (first | refine gP ?_ | exact gPc | refine gN ?_ | exact gNc | (refine gI ?_ ?_ <;> intro hyp <;> first | refine goF ?_ | exact goFc | refine goT ?_ | exact goTc | skip))
          refine pc_two (ys := J.nums.map intN) (puI_of c9) (Pu.sl _ _ _) (sameInts_p _ _ (by omega)) ?_
          rw [decide_eq_true rfl]
          replace fx := Dum_eq
          (first | refine go ?_ | exact goC | skip); repeat' (first | refine gP ?_ | exact gPc | refine gN ?_ | exact gNc | (refine gI ?_ ?_ <;> intro hyp <;> first | refine goF ?_ | exact goFc | refine goT ?_ | exact goTc | skip))
          refine CV_mono (texts_c J9 (by rw [hT]; omega)) ?_
          rintro v h10 ⟨c10, f10⟩
          rw [hT] at c10
          refine GK_fr f10 ?_
          replace fx := Dum_eq
          (first | refine go ?_ | exact goC | skip); repeat' (first | refine gP ?_ | exact gPc | refine gN ?_ | exact gNc | (refine gI ?_ ?_ <;> intro hyp <;> first | refine goF ?_ | exact goFc | refine goT ?_ | exact goTc | skip))
          refine pc_two (ys := J.texts.map strV) (puS_of c10) (Pu.sl _ _ _) (sameTexts_p _ _ (by omega)) ?_
          rw [decide_eq_true rfl]
end Go.Proofs.YtjofjgflcogklaaDoor
