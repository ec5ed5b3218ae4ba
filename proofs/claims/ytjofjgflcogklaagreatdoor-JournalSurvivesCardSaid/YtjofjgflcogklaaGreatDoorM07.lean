/-
  Merged from JnG JnH JsArgP JnS JnT JsS JsT JnJ JnU JnW: What is found of the segments that were appended: plain law.
-/
import Derived.Test.YtjofjgflcogklaaGreatDoorM06
import Derived.Test.YtjofjgflcogklaaGreatDoorM05
import Derived.KernelRfl
set_option linter.unusedSimpArgs false
set_option linter.unusedVariables false
set_option linter.defProp false
set_option linter.constructorNameAsVariable false
/-
  What is found of the segments that were appended: plain law.
-/
namespace Go.Proofs.YtjofjgflcogklaaGreatDoor
open Go Go.Abs Go.Sha Go.Jn
def zero64 : Bs := List.replicate 64 0
theorem unpack_zero : unpack zero64 = none := by
  refine unpack_none fun h => ?_
  obtain ⟨_, _, h3, _⟩ := (good_iff _).1 h
  have : (fld zero64).number = 0 := by rfl
  omega
theorem flat_chunks (t : Bs) : ∀ (C : Nat), t.length ≤ 48 * C → (List.range C).flatMap (fun k => (t.drop (48 * k)).take 48) = t := by
  have key : ∀ C, (List.range C).flatMap (fun k => (t.drop (48 * k)).take 48) = t.take (48 * C) := by
    intro C
    induction C with
    | zero => simp
    | succ C ih =>
      rw [List.range_succ, List.flatMap_append, ih]
      simp only [List.flatMap_cons, List.flatMap_nil, List.append_nil]
      rw [show 48 * (C + 1) = 48 * C + 48 by omega, List.take_add]
  intro C h
  rw [key, List.take_of_length_le h]
structure Seg where
  n : Nat
  t : Bs
  l : List Bs
def Seg.whole (g : Seg) : Prop := g.l = pack g.n g.t
structure Seg.ok (g : Seg) : Prop where
  n1 : 1 ≤ g.n
  n2 : g.n ≤ 4096
  t : g.t.length ≤ 8000
  len : g.l.length = count g.t.length
  each : ∀ k, k < count g.t.length → nth g.l k = sector g.n g.t k ∨ unpack (nth g.l k) = none
theorem nth_pack (n : Nat) (t : Bs) {k : Nat} (hk : k < count t.length) : nth (pack n t) k = sector n t k := by
  rw [nth_eq (by rw [pack_len]; exact hk)]; simp [pack]
theorem record_pack (n : Nat) (t : Bs) (h1 : 1 ≤ n) (h2 : n ≤ 4096) (ht : t.length ≤ 8000) (rest : List (Option Prt)) : record ((pack n t).map unpack ++ rest) = some (n, count t.length, t) := by
  have hc1 := count_pos t.length ht
  obtain ⟨C, hC⟩ : ∃ C, C = count t.length := ⟨_, rfl⟩
  have hg : ∀ k, k < C → ((pack n t).map unpack ++ rest)[k]? = some (some ⟨n, k, t.length - 48 * k, (t.drop (48 * k)).take 48⟩) := by
    intro k hk
    rw [List.getElem?_append_left (by rw [List.length_map, pack_len]; omega), List.getElem?_map]
    have : (pack n t)[k]? = some (sector n t k) := by simp [pack, ← hC, hk]
    rw [this, Option.map_some, good_sector n t k h1 h2 ht (by omega)]
  have h0 := hg 0 (by omega)
  obtain ⟨L, hL⟩ : ∃ L, L = (pack n t).map unpack ++ rest := ⟨_, rfl⟩
  have hLl : C ≤ L.length := by rw [hL, List.length_append, List.length_map, pack_len]; omega
  rw [← hL] at hg h0 ⊢
  cases L with
  | nil => simp at h0
  | cons p L' =>
    simp only [List.getElem?_cons_zero, Option.some.injEq] at h0
    subst h0
    have htx : textOf (some ⟨n, 0, t.length - 48 * 0, (t.drop (48 * 0)).take 48⟩ :: L') C = t := by
      have e : (some (⟨n, 0, t.length - 48 * 0, (t.drop (48 * 0)).take 48⟩ : Prt) :: L').take C = (List.range C).map (fun k => some (⟨n, k, t.length - 48 * k, (t.drop (48 * k)).take 48⟩ : Prt)) := by
        refine List.ext_getElem? fun k => ?_
        by_cases hk : k < C
        · rw [List.getElem?_take_of_lt hk, hg k hk]; simp [hk]
        · rw [List.getElem?_eq_none (by rw [List.length_take]; omega), List.getElem?_eq_none (by simp; omega)]
      rw [textOf, e, List.flatMap_map]
      have := flat_chunks t C (by rw [hC]; exact count_end t.length ht)
      exact this
    have hall : (List.range C).all (chainOk (some ⟨n, 0, t.length - 48 * 0, (t.drop (48 * 0)).take 48⟩ :: L') ⟨n, 0, t.length - 48 * 0, (t.drop (48 * 0)).take 48⟩) = true := by
      rw [List.all_eq_true]
      intro k hk
      rw [List.mem_range] at hk
      have hcl := count_lt t.length ht (by rw [← hC]; exact hk)
      rw [chainOk, hg k hk]
      simp only [decide_eq_true_eq]
      exact ⟨trivial, trivial, by omega⟩
    simp only [record, Nat.mul_zero, Nat.sub_zero, decide_true, Bool.true_and]
    simp only [Nat.mul_zero, Nat.sub_zero] at hall htx
    subst hC
    rw [if_pos, htx]
    rw [hall, Bool.and_true]
    exact decide_eq_true hLl
theorem scan_whole {n : Nat} {t : Bs} (h1 : 1 ≤ n) (h2 : n ≤ 4096) (ht : t.length ≤ 8000) (rest : List (Option Prt)) (R : List (Nat × Bs)) : scanS ((pack n t).map unpack ++ rest) 0 R = scanS rest 0 (addRec R n t) := by
  rw [scanS_some (record_pack n t h1 h2 ht rest) (count_pos _ ht)]
  congr 1
  rw [List.drop_left' (by rw [List.length_map, pack_len])]
theorem scan_broken {g : Seg} (ok : g.ok) (hb : ∃ k, k < count g.t.length ∧ unpack (nth g.l k) = none) (rest : List (Option Prt)) (R : List (Nat × Bs)) : scanS (g.l.map unpack ++ rest) 0 R = scanS rest 0 R := by
  obtain ⟨o1, o2, ot, ol, oe⟩ := ok
  have key : ∀ (m i : Nat), m = g.l.length - i → i ≤ g.l.length → scanS ((g.l.drop i).map unpack ++ rest) 0 R = scanS rest 0 R := by
    intro m
    induction m with
    | zero =>
      intro i hm hi
      rw [List.drop_eq_nil_of_le (by omega)]; rfl
    | succ m ih =>
      intro i hm hi
      have hil : i < g.l.length := by omega
      have hgi : g.l[i] = nth g.l i := (nth_eq hil).symm
      have hne : (g.l.drop i).map unpack ++ rest ≠ [] := fun e => by
        have := congrArg List.length e
        simp at this; omega
      have hnone : record ((g.l.drop i).map unpack ++ rest) = none := by
        rw [List.drop_eq_getElem_cons hil, hgi, List.map_cons, List.cons_append]
        rcases oe i (by omega) with e | e
        · rw [e, good_sector g.n g.t i o1 o2 ot (by omega)]
          by_cases hi0 : i = 0
          · subst hi0
            obtain ⟨k, hk, hz⟩ := hb
            have hne0 : k ≠ 0 := by
              rintro rfl
              rw [e] at hz
              have := good_sector g.n g.t 0 o1 o2 ot (by omega)
              rw [hz] at this
              simp at this
            simp only [record]
            rw [if_neg]
            simp only [Bool.and_eq_true, decide_eq_true_eq, List.all_eq_true, List.mem_range]
            rintro ⟨_, _, hall⟩
            have := hall k (by simpa using hk)
            rw [chainOk] at this
            obtain ⟨k', rfl⟩ : ∃ k', k = k' + 1 := ⟨k - 1, by omega⟩
            rw [List.getElem?_cons_succ, List.getElem?_append_left (by rw [List.length_map, List.length_drop]; omega), List.getElem?_map, List.getElem?_drop, List.getElem?_eq_getElem (by omega)] at this
            have hz' : unpack g.l[0 + 1 + k'] = none := by
              have e' : g.l[0 + 1 + k'] = nth g.l (k' + 1) := by rw [nth_eq (by omega)]; congr 1; omega
              rw [e']; exact hz
            rw [Option.map_some, hz'] at this
            simp at this
          · simp only [record]
            rw [if_neg]
            simp [hi0]
        · rw [e]; rfl
      rw [scanS_none hne hnone]
      rw [List.drop_eq_getElem_cons hil, List.map_cons, List.cons_append, List.drop_succ_cons, List.drop_zero]
      exact ih (i + 1) (by omega) (by omega)
  exact key _ 0 rfl (Nat.zero_le _)
theorem scan_blank (m : Nat) (R : List (Nat × Bs)) : scanS ((List.replicate m zero64).map unpack) 0 R = R := by
  induction m with
  | zero => rfl
  | succ m ih =>
    rw [List.replicate_succ, List.map_cons, unpack_zero, scanS_none (by simp) rfl, List.drop_succ_cons, List.drop_zero]
    exact ih
structure GInv (S : List (Seg × Bool)) (J : Jst) (D : Dsk) : Prop where
  off : D.off = false
  left : D.left = none
  nx : ∀ x ∈ D.s, x.next = none
  con : conts D = S.flatMap (·.1.l) ++ List.replicate (D.s.length - J.fin) zero64
  fin : (S.flatMap (·.1.l)).length = J.fin
  le : J.fin ≤ D.s.length
  ok : ∀ g ∈ S, g.1.ok
  yes : ∀ g ∈ S, g.2 = true → g.1.l = pack g.1.n g.1.t
  no : ∀ g ∈ S, g.2 = false → ∃ k, k < count g.1.t.length ∧ unpack (nth g.1.l k) = none
  recs : J.recs = (S.filter (·.2)).map fun g => (g.1.n, g.1.t)
  lt : ∀ g ∈ S, g.1.n < J.next
  inc : S.Pairwise fun a b => a.1.n < b.1.n
  n1 : 1 ≤ J.next
  n2 : J.next ≤ 4097
  closed : J.closed = false
theorem scan_segs : ∀ (S : List (Seg × Bool)) (R : List (Nat × Bs)) (m : Nat), (∀ g ∈ S, g.1.ok) → (∀ g ∈ S, g.2 = true → g.1.l = pack g.1.n g.1.t) → (∀ g ∈ S, g.2 = false → ∃ k, k < count g.1.t.length ∧ unpack (nth g.1.l k) = none) →
    S.Pairwise (fun a b => a.1.n < b.1.n) → (∀ x ∈ R, ∀ g ∈ S, x.1 < g.1.n) →
    scanS ((S.flatMap (·.1.l) ++ List.replicate m zero64).map unpack) 0 R = R ++ (S.filter (·.2)).map fun g => (g.1.n, g.1.t)
  | [], R, m, _, _, _, _, _ => by
    have := scan_blank m R
    simpa using this
  | g :: S, R, m, h1, h2, h3, h4, h5 => by
    rw [List.pairwise_cons] at h4
    rw [List.flatMap_cons, List.append_assoc, List.map_append]
    cases hg : g.2 with
    | true =>
      have ok := h1 g (by simp)
      rw [h2 g (by simp) hg, scan_whole ok.n1 ok.n2 ok.t]
      have hnot : g.1.n ∉ R.map (·.1) := fun hm => by
        obtain ⟨x, hx, e⟩ := List.mem_map.1 hm
        have := h5 x hx g (by simp)
        omega
      rw [addRec, if_neg hnot, scan_segs S _ m (fun g hg => h1 g (by simp [hg])) (fun g hg => h2 g (by simp [hg])) (fun g hg => h3 g (by simp [hg])) h4.2 (fun x hx g' hg' => by
        rcases List.mem_append.1 hx with hx | hx
        · exact h5 x hx g' (by simp [hg'])
        · simp at hx; subst hx; exact h4.1 g' hg')]
      rw [List.filter_cons_of_pos (by simp [hg])]
      simp
    | false =>
      rw [scan_broken (h1 g (by simp)) (h3 g (by simp) hg), scan_segs S R m (fun g hg => h1 g (by simp [hg])) (fun g hg => h2 g (by simp [hg])) (fun g hg => h3 g (by simp [hg])) h4.2 (fun x hx g' hg' => h5 x hx g' (by simp [hg']))]
      rw [List.filter_cons_of_neg (by simp [hg])]
theorem GInv.found {S : List (Seg × Bool)} {J : Jst} {D : Dsk} (h : GInv S J D) : (openJ (conts D)).recs = J.recs := by
  show scanS ((conts D).map unpack) 0 [] = J.recs
  rw [h.con, scan_segs S [] _ h.ok h.yes h.no h.inc (by simp), h.recs]; simp
def putNext (l : List Sec) (a : Nat) : List Bs → List Sec
  | [] => l
  | s :: ss => putNext (l.set a { nth l a with next := if h : s.length = 64 then some ⟨s, h⟩ else none }) (a + 1) ss
theorem wrAll_ok : ∀ (ss : List Bs) (D : Dsk) (a : Nat), D.off = false → D.left = none → a + ss.length ≤ D.s.length → (∀ s ∈ ss, s.length = 64) →
    wrAll D a ss = (0, { D with s := putNext D.s a ss })
  | [], D, a, _, _, _, _ => rfl
  | s :: ss, D, a, h1, h2, h3, h4 => by
    have h64 := h4 s (by simp)
    simp only [List.length_cons] at h3
    have hw : D.write (a : Int) s = (0, { D with s := D.s.set a { nth D.s a with next := some ⟨s, h64⟩ } }) := by
      unfold Dsk.write
      rw [h1, h2, if_neg (by simp), if_neg (by omega), dif_pos h64, if_neg (by simp)]
      simp only [Int.toNat_natCast, stepL, Option.map_none]
    rw [wrAll, hw, if_pos rfl]
    refine (wrAll_ok ss { D with s := D.s.set a { nth D.s a with next := some (⟨s, h64⟩ : B64) } } (a + 1) h1 h2 (by simp; omega) (fun s hs => h4 s (by simp [hs]))).trans ?_
    rw [putNext, dif_pos h64]
theorem putNext_len (ss : List Bs) : ∀ (l : List Sec) (a : Nat), (putNext l a ss).length = l.length := by
  induction ss with
  | nil => intro l a; rfl
  | cons s ss ih => intro l a; rw [putNext, ih, List.length_set]
theorem putNext_nth (ss : List Bs) : ∀ (l : List Sec) (a i : Nat), a + ss.length ≤ l.length → i < l.length → (∀ s ∈ ss, s.length = 64) →
    nth (putNext l a ss) i = if h : a ≤ i ∧ i < a + ss.length ∧ (nth ss (i - a)).length = 64 then { nth l i with next := some ⟨nth ss (i - a), h.2.2⟩ } else nth l i := by
  induction ss with
  | nil =>
    intro l a i _ _ _
    rw [dif_neg (by simp; omega)]; rfl
  | cons s ss ih =>
    intro l a i h1 h2 h3
    simp only [List.length_cons] at h1
    have h64 := h3 s (by simp)
    rw [putNext, dif_pos h64, ih _ (a + 1) i (by rw [List.length_set]; omega) (by rw [List.length_set]; exact h2) (fun s hs => h3 s (by simp [hs])), nth_set _ (by omega)]
    by_cases e : i = a
    · subst e
      rw [if_pos rfl, dif_neg (by omega), dif_pos ⟨Nat.le_refl _, by simp, by rw [Nat.sub_self]; exact h64⟩]
      simp [Nat.sub_self, nth]
    · rw [if_neg e]
      by_cases hi : a + 1 ≤ i ∧ i < a + 1 + ss.length
      · have en : nth (s :: ss) (i - a) = nth ss (i - (a + 1)) := by
          rw [show i - a = (i - (a + 1)) + 1 by omega]; simp [nth]
        have hl : (nth ss (i - (a + 1))).length = 64 := h3 _ (by simp [nth_mem (l := ss) (i := i - (a + 1)) (by omega)])
        rw [dif_pos ⟨hi.1, hi.2, hl⟩, dif_pos ⟨by omega, by simp; omega, by rw [en]; exact hl⟩]
        simp only [en]
      · rw [dif_neg (fun q => hi ⟨q.1, q.2.1⟩), dif_neg (fun q => by simp only [List.length_cons] at q; omega)]
theorem mix64 (b t : B64) : (mix b t (clampP 64) (clampP_le 64)) = b := by
  apply Subtype.ext
  have h1 := b.2
  have h2 := t.2
  have e : clampP 64 = 64 := rfl
  show b.1.take (clampP 64) ++ t.1.drop (clampP 64) = b.1
  rw [e, List.take_of_length_le (by omega), List.drop_eq_nil_of_le (by omega), List.append_nil]
theorem mountS64_len (l : List Sec) (k : Nat) : (mountS (fun _ => 64) l k).length = l.length := mountS_len _ _ _
theorem mountS64_nth : ∀ (l : List Sec) (k i : Nat), i < l.length → (nth l i).next = none ∨ (∃ v, (nth l i).next = some v) → nth (mountS (fun _ => 64) l k) i =
    match (nth l i).next with | none => nth l i | some v => ⟨if (nth l i).worn then (nth l i).text else v, none, (nth l i).worn⟩
  | [], _, _, h, _ => by simp at h
  | x :: l, k, 0, _, _ => by
    have hx : nth (x :: l) 0 = x := rfl
    simp only [mountS, hx]
    cases hn : x.next with
    | none => rfl
    | some v =>
      show settle x 64 = _
      simp only [settle, hn, mix64]
  | x :: l, k, i + 1, h, q => by
    have hx : nth (x :: l) (i + 1) = nth l i := rfl
    rw [hx] at q ⊢
    simp only [mountS]
    cases hn : x.next with
    | none => exact mountS64_nth l k i (by simpa using h) q
    | some v => exact mountS64_nth l (k + 1) i (by simpa using h) q
theorem put_flush {D : Dsk} {ss : List Bs} {a : Nat} (ho : D.off = false) (hl : D.left = none) (hn : ∀ x ∈ D.s, x.next = none) (ha : a + ss.length ≤ D.s.length) (h64 : ∀ s ∈ ss, s.length = 64) :
    ∃ E : Dsk, (wrAll D a ss) = (0, { D with s := putNext D.s a ss }) ∧ (wrAll D a ss).2.flush = (0, E) ∧ E.off = false ∧ E.left = none ∧ (∀ x ∈ E.s, x.next = none) ∧ E.s.length = D.s.length ∧
      (∀ i, i < D.s.length → nth (conts E) i = if a ≤ i ∧ i < a + ss.length ∧ (nth D.s i).worn = false then nth ss (i - a) else nth (conts D) i) ∧ (∀ i, i < D.s.length → (nth E.s i).worn = (nth D.s i).worn) := by
  have e1 := wrAll_ok ss D a ho hl ha h64
  have e2 : ({ D with s := putNext D.s a ss } : Dsk).flush = (0, { D with s := mountS (fun _ => 64) (putNext D.s a ss) 0 }) := by
    unfold Dsk.flush
    rw [ho, hl, if_neg (by simp), if_neg (by simp)]
    simp [stepL]
  have hnn : ∀ i, i < D.s.length → (nth D.s i).next = none := fun i hi => hn _ (nth_mem hi)
  have key : ∀ i, i < D.s.length → nth (mountS (fun _ => 64) (putNext D.s a ss) 0) i = if h : a ≤ i ∧ i < a + ss.length ∧ (nth ss (i - a)).length = 64 then ⟨if (nth D.s i).worn then (nth D.s i).text else ⟨nth ss (i - a), h.2.2⟩, none, (nth D.s i).worn⟩ else nth D.s i := by
    intro i hi
    have hp := putNext_nth ss D.s a i ha hi h64
    rw [mountS64_nth _ 0 i (by rw [putNext_len]; exact hi) (by cases (nth (putNext D.s a ss) i).next with | none => exact .inl rfl | some v => exact .inr ⟨v, rfl⟩), hp]
    by_cases q : a ≤ i ∧ i < a + ss.length ∧ (nth ss (i - a)).length = 64
    · rw [dif_pos q, dif_pos q]
    · rw [dif_neg q, dif_neg q, hnn i hi]
  refine ⟨{ D with s := mountS (fun _ => 64) (putNext D.s a ss) 0 }, e1, by rw [e1]; exact e2, ho, hl, ?_, by rw [mountS64_len, putNext_len], ?_, ?_⟩
  · intro x hx
    obtain ⟨i, hi, rfl⟩ := List.mem_iff_getElem.1 hx
    have hi' : i < D.s.length := by simpa [mountS_len, putNext_len] using hi
    rw [← nth_eq hi, key i hi']
    split
    · rfl
    · exact hnn i hi'
  · intro i hi
    rw [nth_conts _ (by rw [mountS64_len, putNext_len]; exact hi), nth_conts _ hi]
    dsimp only
    rw [key i hi, hnn i hi]
    by_cases q : a ≤ i ∧ i < a + ss.length
    · have hl : (nth ss (i - a)).length = 64 := h64 _ (nth_mem (by omega))
      rw [dif_pos ⟨q.1, q.2, hl⟩]
      by_cases w : (nth D.s i).worn = true
      · rw [if_neg (by rw [w]; simp)]
        simp only [Option.getD_none]
        rw [w]; rfl
      · rw [Bool.not_eq_true] at w
        rw [if_pos ⟨q.1, q.2, w⟩]
        simp only [Option.getD_none]
        rw [w]; rfl
    · rw [dif_neg (fun z => q ⟨z.1, z.2.1⟩), if_neg (fun z => q ⟨z.1, z.2.1⟩), hnn i hi]
  · intro i hi
    dsimp only
    rw [key i hi]
    split <;> rfl
theorem rdAll_ok (E : Dsk) (ho : E.off = false) : ∀ (ss : List Bs) (a : Nat) (r : Bool), a + ss.length ≤ E.s.length → rdAll E a ss r = (0, r && decide (∀ k, k < ss.length → nth ss k = nth (conts E) (a + k)))
  | [], a, r, _ => by simp [rdAll]
  | s :: ss, a, r, h => by
    simp only [List.length_cons] at h
    rw [rdAll, read_conts E ho (by omega), if_pos rfl, rdAll_ok E ho ss (a + 1) _ (by omega), Bool.and_assoc]
    congr 2
    rw [← Bool.decide_and]
    apply decide_eq_decide.2
    constructor
    · rintro ⟨q1, q2⟩ k hk
      cases k with
      | zero => exact q1
      | succ k =>
        have := q2 k (by simpa using hk)
        rw [show a + (k + 1) = a + 1 + k by omega, ← this]; rfl
    · intro q
      refine ⟨q 0 (by simp), fun k hk => ?_⟩
      have := q (k + 1) (by simpa using hk)
      rw [show a + 1 + k = a + (k + 1) by omega, ← this]; rfl
theorem ext_nth {α : Type} [Inhabited α] {l l' : List α} (hl : l.length = l'.length) (h : ∀ i, i < l.length → nth l i = nth l' i) : l = l' := by
  refine List.ext_getElem hl fun i h1 h2 => ?_
  have := h i h1
  rwa [nth_eq h1, nth_eq h2] at this
theorem good_zero : zero64.length = 64 := rfl
theorem sector_ne_zero {n : Nat} {t : Bs} {k : Nat} (h1 : 1 ≤ n) (h2 : n ≤ 4096) (h3 : t.length ≤ 8000) (hk : k < count t.length) : sector n t k ≠ zero64 := fun e => by
  have := good_sector n t k h1 h2 h3 hk
  rw [e, unpack_zero] at this
  simp at this
theorem GInv.step1 {S : List (Seg × Bool)} {J : Jst} {D : Dsk} (g : GInv S J D) (t : Bs) (C : Int) (J' : Jst) (D' : Dsk) (n : Int) (he : appendJ J D t = ((n, C), (J', D'))) :
    ∃ S', GInv S' J' D' ∧ D'.s.length = D.s.length ∧ (∀ i, i < D.s.length → (nth D'.s i).worn = (nth D.s i).worn) ∧ ((∀ i, i < D.s.length → (nth D.s i).worn = false) → C ≠ 22) ∧ (C = 0 → ∃ l, S' = S ++ [(⟨J.next, t, l⟩, true)]) ∧ ((C = 4 ∨ C = 20) → S' = S ∧ J' = J ∧ D' = D) ∧ ((C = 0 ∧ n = (J.next : Int) ∧ J'.recs = J.recs ++ [(J.next, t)] ∧ J'.next = J.next + 1) ∨ (n = 0 ∧ (C = 4 ∨ C = 20 ∨ C = 22) ∧ J'.recs = J.recs ∧ J.next ≤ J'.next)) := by
  have h1 := g.closed
  by_cases h2 : 8000 < t.length ∨ 4096 < J.next
  · rw [appendJ, if_neg (by simp [h1]), if_pos h2] at he
    cases he
    exact ⟨S, g, rfl, fun _ _ => rfl, by simp, by simp, fun _ => ⟨rfl, rfl, rfl⟩, .inr ⟨rfl, .inl rfl, rfl, Nat.le_refl _⟩⟩
  · by_cases h3 : (D.s.length : Int) - (J.fin : Int) < (count t.length : Int)
    · rw [appendJ, if_neg (by simp [h1]), if_neg h2, if_pos h3] at he
      cases he
      exact ⟨S, g, rfl, fun _ _ => rfl, by simp, by simp, fun _ => ⟨rfl, rfl, rfl⟩, .inr ⟨rfl, .inr (.inl rfl), rfl, Nat.le_refl _⟩⟩
    · rw [appendJ_go h1 h2 h3] at he
      obtain ⟨ss, hss⟩ : ∃ ss, ss = pack J.next t := ⟨_, rfl⟩
      have hlen : ss.length = count t.length := by rw [hss, pack_len]
      have hN := g.n1
      have hle := g.le
      have h64 : ∀ s ∈ ss, s.length = 64 := by
        intro s hs
        rw [hss] at hs
        obtain ⟨k, _, rfl⟩ := List.mem_map.1 hs
        exact sector_len _ _ _
      obtain ⟨E, e1, e2, e3, e4, e5, e6, e7, e8w⟩ := put_flush (ss := ss) (a := J.fin) g.off g.left g.nx (by omega) h64
      have e8 := rdAll_ok E e3 ss J.fin true (by omega)
      obtain ⟨b, hb⟩ : ∃ b : Bool, b = decide (∀ k, k < ss.length → nth ss k = nth (conts E) (J.fin + k)) := ⟨_, rfl⟩
      rw [← hb, Bool.true_and] at e8
      have hw : writeJ D J.fin ss = ((0, b), E) := by
        unfold writeJ
        rw [if_pos (by rw [e1]), e2, if_pos rfl, e8]
      rw [← hss, hw] at he
      dsimp only at he
      rw [if_pos rfl] at he
      have hcl : (conts D).length = D.s.length := conts_len D
      obtain ⟨F, hF⟩ : ∃ F, F = S.flatMap (·.1.l) := ⟨_, rfl⟩
      have hcon := g.con
      have hfin := g.fin
      rw [← hF] at hcon hfin
      have hz : ∀ i, J.fin ≤ i → i < D.s.length → nth (conts D) i = zero64 := by
        intro i q1 q2
        rw [hcon, nth_append_right (by omega), nth_replicate _ _ (by omega)]
      obtain ⟨mid, hmid⟩ : ∃ mid, mid = (List.range (count t.length)).map fun k => nth (conts E) (J.fin + k) := ⟨_, rfl⟩
      have hml : mid.length = count t.length := by rw [hmid]; simp
      have hmn : ∀ k, k < count t.length → nth mid k = nth (conts E) (J.fin + k) := by
        intro k hk
        rw [nth_eq (by omega)]; simp [hmid]
      have hms : ∀ k, k < count t.length → nth mid k = if (nth D.s (J.fin + k)).worn = false then sector J.next t k else zero64 := by
        intro k hk
        rw [hmn k hk, e7 _ (by omega)]
        by_cases w : (nth D.s (J.fin + k)).worn = false
        · rw [if_pos ⟨by omega, by omega, w⟩, if_pos w, hss, Nat.add_sub_cancel_left, nth_pack _ _ hk]
        · rw [if_neg (fun z => w z.2.2), if_neg w, hz _ (by omega) (by omega)]
      have hE : conts E = (F ++ mid) ++ List.replicate (E.s.length - (J.fin + count t.length)) zero64 := by
        refine ext_nth (by rw [conts_len, List.length_append, List.length_append, List.length_replicate]; omega) fun i hi => ?_
        rw [conts_len, e6] at hi
        by_cases q1 : i < J.fin
        · rw [e7 i hi, if_neg (by omega), hcon, nth_append_left (by omega), nth_append_left (by rw [List.length_append]; omega), nth_append_left (by omega)]
        · by_cases q2 : i < J.fin + count t.length
          · rw [nth_append_left (by rw [List.length_append]; omega), nth_append_right (by omega), hmn _ (by omega)]
            congr 1; omega
          · rw [nth_append_right (by rw [List.length_append]; omega), nth_replicate _ _ (by rw [List.length_append]; omega), e7 i hi, if_neg (by omega), hz i (by omega) hi]
      have ok : Seg.ok ⟨J.next, t, mid⟩ := ⟨hN, by show J.next ≤ 4096; omega, by show t.length ≤ 8000; omega, hml, fun k hk => by
        show nth mid k = _ ∨ unpack (nth mid k) = _
        rw [hms k hk]
        split
        · exact .inl rfl
        · exact .inr unpack_zero⟩
      have hbt : b = true → mid = pack J.next t := by
        intro q
        rw [hb] at q
        have q := of_decide_eq_true q
        refine ext_nth (by rw [hml, pack_len]) fun k hk => ?_
        rw [hmn k (by omega), ← hss]
        exact (q k (by omega)).symm
      have hbf : b = false → ∃ k, k < count t.length ∧ unpack (nth mid k) = none := by
        intro q
        rw [hb] at q
        have q := of_decide_eq_false q
        refine Classical.byContradiction fun no => q fun k hk => ?_
        rw [← hmn k (by omega), hms k (by omega)]
        by_cases w : (nth D.s (J.fin + k)).worn = false
        · rw [if_pos w, hss, nth_pack _ _ (by omega)]
        · exact absurd ⟨k, by omega, by rw [hms k (by omega), if_neg w, unpack_zero]⟩ no
      have inv : ∀ J2 : Jst, J2.fin = J.fin + count t.length → J2.next = J.next + 1 → J2.closed = false → J2.recs = (if b then J.recs ++ [(J.next, t)] else J.recs) → GInv (S ++ [(⟨J.next, t, mid⟩, b)]) J2 E := by
        intro J2 j1 j2 j3 j4
        refine ⟨e3, e4, e5, ?_, ?_, by omega, ?_, ?_, ?_, ?_, ?_, ?_, by omega, by omega, j3⟩
        · rw [hE, List.flatMap_append, ← hF, j1]; simp
        · rw [List.flatMap_append, ← hF, j1]; simp [hfin, hml]
        · intro x hx
          rcases List.mem_append.1 hx with hx | hx
          · exact g.ok x hx
          · simp at hx; subst hx; exact ok
        · intro x hx
          rcases List.mem_append.1 hx with hx | hx
          · exact g.yes x hx
          · simp at hx; subst hx; exact hbt
        · intro x hx
          rcases List.mem_append.1 hx with hx | hx
          · exact g.no x hx
          · simp at hx; subst hx; exact hbf
        · rw [j4, g.recs, List.filter_append, List.map_append]
          cases b <;> simp
        · intro x hx
          rcases List.mem_append.1 hx with hx | hx
          · have := g.lt x hx; omega
          · simp at hx; subst hx; show J.next < _; omega
        · rw [List.pairwise_append]
          refine ⟨g.inc, by simp, fun x hx y hy => ?_⟩
          simp at hy; subst hy
          exact g.lt x hx
      cases b with
      | true =>
        rw [if_pos rfl] at he
        cases he
        exact ⟨_, inv _ rfl rfl h1 rfl, e6, e8w, by simp, fun _ => ⟨mid, rfl⟩, by simp, .inl ⟨rfl, rfl, rfl, rfl⟩⟩
      | false =>
        rw [if_neg (by simp)] at he
        cases he
        refine ⟨_, inv _ rfl rfl h1 rfl, e6, e8w, ?_, by simp, by simp, .inr ⟨rfl, .inr (.inr rfl), rfl, by simp⟩⟩
        intro hw
        obtain ⟨k, hk, hz⟩ := hbf rfl
        rw [hms k hk, if_pos (hw _ (by omega)), good_sector _ _ _ hN (by omega) (by omega) hk] at hz
        simp at hz
theorem GInv.step {S : List (Seg × Bool)} {J : Jst} {D : Dsk} (g : GInv S J D) (t : Bs) (C : Int) (J' : Jst) (D' : Dsk) (n : Int) (he : appendJ J D t = ((n, C), (J', D'))) :
    (∃ S', GInv S' J' D') ∧ D'.s.length = D.s.length ∧ ((C = 0 ∧ n = (J.next : Int) ∧ J'.recs = J.recs ++ [(J.next, t)] ∧ J'.next = J.next + 1) ∨ (n = 0 ∧ (C = 4 ∨ C = 20 ∨ C = 22) ∧ J'.recs = J.recs ∧ J.next ≤ J'.next)) := by
  obtain ⟨S', g', h1, _, _, _, _, h2⟩ := g.step1 t C J' D' n he
  exact ⟨⟨S', g'⟩, h1, h2⟩
end Go.Proofs.YtjofjgflcogklaaGreatDoor

set_option maxHeartbeats 4000000
namespace Go.Abs
def mnxV (mx : Bool) : AVal → AVal → Option AVal
  | .int k a, .int _ b => some (.int k (if mx then (if a < b then b else a) else (if b < a then b else a)))
  | _, _ => none
theorem mnxV_int (mx : Bool) (k k' : IntKind) (a b : Int) : mnxV mx (.int k a) (.int k' b) = some (.int k (if mx then (if a < b then b else a) else (if b < a then b else a))) := rfl
theorem XW_mnx {F : Nat → Option AEnt} {ev : Opd → AVal} {h : Heap} {K : AVal → Heap → Prop} {mx : Bool} {x y : Opd} : XW F (.mnx mx x y) ev h K ↔ bindK (mnxV mx (ev x) (ev y)) K h :=
  XW_val (fun _ => rfl) (by
    simp only [evalA]
    generalize ev x = a
    generalize ev y = b
    cases a <;> cases b <;> rfl)
end Go.Abs
namespace Go.Proofs.YtjofjgflcogklaaGreatDoor
open Go Go.Abs Go.Sha Go.Jn
structure Stp where
  kind : Int
  i : Int
  bit : Int
  size : Int
  fill : UInt8
  picks : List Int
  tk : Tok
  deriving Inhabited
def Stp.cells (o : Stp) : List AVal := [.int .i64 o.kind, .int .i64 o.i, .int .i64 o.bit, .int .i64 o.size, byteV o.fill, .sl (o.picks.map (.int .i64)) o.tk]
def Stp.val (o : Stp) : AVal := .agg o.cells
structure Stp.ok (o : Stp) : Prop where
  plen : o.picks.length ≤ 9223372036854775807
  tk : o.tk = .none ∨ o.tk = .nil ∧ o.picks = []
  ib : -9223372036854775808 ≤ o.i ∧ o.i < 9223372036854775808
def Stp.len (o : Stp) : Nat := (min (max o.size 0) 8100).toNat
def runB (f : UInt8) (n : Nat) : Bs := (List.range n).map fun k => f + UInt8.ofNat k
def Stp.text (o : Stp) : Bs := runB o.fill o.len
theorem runB_len (f : UInt8) (n : Nat) : (runB f n).length = n := by simp [runB]
theorem runB_succ (f : UInt8) (n : Nat) : runB f (n + 1) = runB f n ++ [f + UInt8.ofNat n] := by simp [runB, List.range_succ]
theorem Stp.text_len (o : Stp) : o.text.length ≤ 8100 := by rw [Stp.text, runB_len, Stp.len]; omega
theorem stext_v (o : Stp) : PV F 27 [o.val] = some (.str o.text) := by
  refine PV_wp (fn := c27) rfl ?_
  dsimp only [c27, Stp.val, Stp.cells]
  obtain ⟨N, hN⟩ : ∃ N, N = o.len := ⟨_, rfl⟩
  have hNle : N ≤ 8100 := by rw [hN, Stp.len]; omega
  have hM : (if (8100 : Int) < (if o.size < 0 then 0 else o.size) then 8100 else (if o.size < 0 then 0 else o.size)) = (N : Int) := by
    rw [hN, Stp.len]
    split <;> split at * <;> omega
  have hT : o.text = runB o.fill N := by rw [hN]; rfl
  replace fx := aI @XW_mnx (aI @mnxV_int (aI @hM (aI @byte_cells @byte_one)))
  (first | refine go ?_ | exact goC | skip); repeat' (first | refine gP ?_ | exact gPc | refine gN ?_ | exact gNc | (refine gI ?_ ?_ <;> intro hyp <;> first | refine goF ?_ | exact goFc | refine goT ?_ | exact goTc | skip))
  refine w_loop (fun m vs h' => ∃ (k : Nat) (tk : Tok) (x1 : AVal), m = N - k ∧ k ≤ N ∧ vs = [o.val, .ptr 0 0, .str [], .int .i64 (N : Int), .sl ((runB o.fill k).map byteV) tk, .int .i64 (k : Int), x1] ∧
      h'.get 0 = some (.row true 0 true o.cells) ∧ GrF (fun _ => False) (Heap.empty.push (.row true 0 true o.cells)) h' 5 1 (runB o.fill k) tk) N
    ⟨0, .nil, _, rfl, by omega, rfl, get_push_eq rfl, GrF.nil _ _ _ _⟩ ?_
  rintro m vs h' ⟨k, tk, x1, rfl, hk, rfl, g, G⟩
  have sl := runB_len o.fill k
  have ss := runB_succ o.fill k
  unfold Stp.cells at g
  by_cases hkm : k < N
  · have e3 : toIntA .u8 (.int .i64 ((k : Nat) : Int)) = some (byteV (UInt8.ofNat k)) := by rw [toU8]
    have e4 : ∀ a b : UInt8, binA .add .arith (byteV a) (byteV b) = some (byteV (a + b)) := fun a b => by
      have : IntKind.u8.wrap ((a.toNat : Int) + (b.toNat : Int)) = ((a + b).toNat : Int) := by
        rw [u8_wrap, UInt8.toNat_add]; omega
      simp only [byteV, binA, intBin, if_true, this, reduceCtorEq, or_self, if_false]
    have lb : ∀ (x : UInt8) H, litA 0 5 1 1 false [.int .u8 0] (some [byteV x]) H = some (.sl (([x] : List UInt8).map byteV) .none, H) := fun x H => lit_none rfl rfl rfl rfl
    replace fx := aI @g (aI @e3 (aI @e4 (aI @lb (aI @byte_cells @byte_one))))
    (first | refine go ?_ | exact goC | skip); repeat' (first | refine gP ?_ | exact gPc | refine gN ?_ | exact gNc | (refine gI ?_ ?_ <;> intro hyp <;> first | refine goF ?_ | exact goFc | refine goT ?_ | exact goTc | skip))
    refine append_F (f := byteV) (runB o.fill k) [o.fill + UInt8.ofNat k] byte_len (fun x => rfl) (fun x => rfl) rfl (elems_sl (l := [_]) byte_len) G (by rw [sl]; simp; omega) (by omega) (by omega) (by omega) ?_
    intro h1 tk1 G1 n1 kr _
    rw [← ss] at G1 ⊢
    replace fx := Dum_eq
    (first | refine go ?_ | exact goC | skip); repeat' (first | refine gP ?_ | exact gPc | refine gN ?_ | exact gNc | (refine gI ?_ ?_ <;> intro hyp <;> first | refine goF ?_ | exact goFc | refine goT ?_ | exact goTc | skip))
    exact lp_n ⟨_, by omega, k + 1, tk1, _, rfl, by omega, rfl, kr _ _ _ _ _ g, G1⟩
  · have e : k = N := by omega
    subst e
    rw [hT]
    replace fx := Dum_eq
    (first | refine go ?_ | exact goC | skip); repeat' (first | refine gP ?_ | exact gPc | refine gN ?_ | exact gNc | (refine gI ?_ ?_ <;> intro hyp <;> first | refine goF ?_ | exact goFc | refine goT ?_ | exact goTc | skip))
structure Virgin (n : Nat) (D : Dsk) : Prop where
  off : D.off = false
  left : D.left = none
  len : D.s.length = n
  all : ∀ x ∈ D.s, x.text = zeroB ∧ x.next = none
theorem virgin_fresh (n : Nat) : Virgin n (freshD n) := ⟨rfl, rfl, by simp [freshD], fun x hx => by
  simp only [freshD, List.mem_replicate] at hx
  rw [hx.2]; exact ⟨rfl, rfl⟩⟩
theorem Virgin.wear {n : Nat} {D : Dsk} (v : Virgin n D) (i : Int) : Virgin n (D.wear i).2 := by
  unfold Dsk.wear
  split
  · exact v
  · rename_i hi
    refine ⟨v.off, v.left, by simp [v.len], fun x hx => ?_⟩
    rcases List.mem_or_eq_of_mem_set hx with hx | rfl
    · exact v.all x hx
    · exact v.all (nth D.s i.toNat) (nth_mem (by omega))
theorem Virgin.conts {n : Nat} {D : Dsk} (v : Virgin n D) : conts D = List.replicate n zero64 := by
  refine ext_nth (by rw [conts_len, v.len, List.length_replicate]) fun i hi => ?_
  rw [conts_len] at hi
  obtain ⟨h1, h2⟩ := v.all _ (nth_mem hi)
  rw [nth_conts D hi, h1, h2, nth_replicate _ _ (by rw [← v.len]; exact hi)]
  rfl
theorem heads_blank (n : Nat) : ∀ k, k ≤ n → heads (List.replicate n zero64) k = ⟨[], [], 1, 0, false⟩
  | 0, _ => rfl
  | k + 1, h => by
    rw [heads, heads_blank n k (by omega), nth_replicate _ _ (by omega), scanSec, unpack_zero]
    rfl
theorem Virgin.opened {n : Nat} {D : Dsk} (v : Virgin n D) : openJ (Go.Proofs.YtjofjgflcogklaaGreatDoor.conts D) = ⟨[], [], 1, 0, false⟩ := by
  rw [v.conts, openJ, List.length_replicate, heads_blank n n (Nat.le_refl _), scan_blank]
theorem Virgin.inv {n : Nat} {D : Dsk} (v : Virgin n D) : GInv [] ⟨[], [], 1, 0, false⟩ D :=
  ⟨v.off, v.left, fun x hx => (v.all x hx).2, by rw [v.conts, v.len]; rfl, rfl, by simp, by simp, by simp, by simp, rfl, by simp, List.Pairwise.nil, by simp, by simp, rfl⟩
end Go.Proofs.YtjofjgflcogklaaGreatDoor

namespace Go.Proofs.YtjofjgflcogklaaGreatDoor
open Go Go.Abs Go.ChangeShapes Go.WideShapes Go.ChangeAt Go.RowKit
attribute [local irreducible] okA
theorem wf_u8 {n : Int} (h : (Lit.int .u8 n).wf = true) : 0 ≤ n ∧ n < 256 := by
  simp only [Lit.wf, Bool.and_eq_true, decide_eq_true_eq] at h
  have h1 : IntKind.u8.min = 0 := rfl
  have h2 : IntKind.u8.max = 255 := rfl
  omega
theorem byte_of {n : Int} (h : 0 ≤ n ∧ n < 256) : AVal.int .u8 n = byteV (UInt8.ofNat n.toNat) := by
  unfold byteV
  congr 1
  simp
  omega
theorem argB {n : Nat} {x : AVal} (h1 : mk (isSt Tryz.prog 81) x.cells = some x) (h2 : okA Tryz.prog (n + 2) 81 x.cells) : ∃ (l : List UInt8) (tk : Abs.Tok), x = .sl (l.map byteV) tk ∧ l.length ≤ 9223372036854775807 := by
  have hst : isSt Tryz.prog 81 = false := by kernel_rfl
  have hsu : isSt Tryz.prog 5 = false := by kernel_rfl
  rw [hst] at h1
  rw [okA] at h2
  simp only [Tryz.underlying81] at h2
  obtain ⟨xs, tk, hx, htk, hlen, hall⟩ := h2
  rw [maxLen_eq] at hlen
  obtain ⟨l, rfl, hl⟩ := list_of (f := byteV) (q := fun _ => True) (fun x hx => by
    obtain ⟨g1, g2⟩ := hx
    rw [hsu] at g1
    rw [okA] at g2
    simp only [Tryz.underlying5] at g2
    obtain ⟨z, hz, hw⟩ := g2
    exact ⟨UInt8.ofNat z.toNat, (mk_one (ag := false) g1 hz).trans (byte_of (wf_u8 hw)), trivial⟩) hall
  exact ⟨l, tk, mk_one (ag := false) h1 hx, by simpa using hlen⟩
theorem argU {n : Nat} {x : AVal} (h1 : mk (isSt Tryz.prog 5) x.cells = some x) (h2 : okA Tryz.prog (n + 1) 5 x.cells) : ∃ b : UInt8, x = byteV b := by
  have hst : isSt Tryz.prog 5 = false := by kernel_rfl
  rw [hst] at h1
  rw [okA] at h2
  simp only [Tryz.underlying5] at h2
  obtain ⟨z, hz, hw⟩ := h2
  exact ⟨UInt8.ofNat z.toNat, (mk_one (ag := false) h1 hz).trans (byte_of (wf_u8 hw))⟩
theorem argL {n : Nat} {x : AVal} (h1 : mk (isSt Tryz.prog 51) x.cells = some x) (h2 : okA Tryz.prog (n + 2) 51 x.cells) : ∃ (l : List Int) (tk : Abs.Tok), x = .sl (l.map (.int .i64)) tk ∧ l.length ≤ 9223372036854775807 := by
  have hst : isSt Tryz.prog 51 = false := by kernel_rfl
  rw [hst] at h1
  rw [okA] at h2
  simp only [Tryz.underlying51] at h2
  obtain ⟨xs, tk, hx, htk, hlen, hall⟩ := h2
  rw [maxLen_eq] at hlen
  obtain ⟨l, rfl, hl⟩ := list_of (f := AVal.int .i64) (q := I64) (fun x hx => argI (n := n) hx.1 hx.2) hall
  exact ⟨l, tk, mk_one (ag := false) h1 hx, by simpa using hlen⟩
theorem argX {n : Nat} {x : AVal} (h1 : mk (isSt Tryz.prog 56) x.cells = some x) (h2 : okA Tryz.prog (n + 3) 56 x.cells) : ∃ o : Stp, x = o.val ∧ o.ok := by
  have hst : isSt Tryz.prog 56 = true := by kernel_rfl
  have hsi : isSt Tryz.prog 3 = false := by kernel_rfl
  rw [hst] at h1
  rw [okA] at h2
  simp only [Tryz.underlying56] at h2
  obtain ⟨hlen, hf⟩ := h2
  have hx : x = .agg x.cells := by simpa [mk] using h1.symm
  obtain ⟨y0, e0, q0⟩ := hf 0 _ rfl
  obtain ⟨y1, e1, q1⟩ := hf 1 _ rfl
  obtain ⟨y2, e2, q2⟩ := hf 2 _ rfl
  obtain ⟨y3, e3, q3⟩ := hf 3 _ rfl
  obtain ⟨y4, e4, q4⟩ := hf 4 _ rfl
  obtain ⟨y5, e5, q5⟩ := hf 5 _ rfl
  have hl : x.cells = [y0, y1, y2, y3, y4, y5] := by
    generalize x.cells = l at hlen e0 e1 e2 e3 e4 e5
    match l, hlen with
    | [a, b, c, d, e, f], _ => simp at e0 e1 e2 e3 e4 e5; subst e0; subst e1; subst e2; subst e3; subst e4; subst e5; rfl
  replace q0 : okA Tryz.prog (n + 2) 3 [y0] := q0
  replace q1 : okA Tryz.prog (n + 2) 3 [y1] := q1
  replace q2 : okA Tryz.prog (n + 2) 3 [y2] := q2
  replace q3 : okA Tryz.prog (n + 2) 3 [y3] := q3
  replace q4 : okA Tryz.prog (n + 2) 5 [y4] := q4
  replace q5 : okA Tryz.prog (n + 2) 51 [y5] := q5
  rw [okA] at q0 q1 q2 q3 q4 q5
  simp only [Tryz.underlying3] at q0 q1 q2 q3
  simp only [Tryz.underlying5] at q4
  simp only [Tryz.underlying51] at q5
  obtain ⟨z0, h0, w0⟩ := q0
  obtain ⟨z1, h1', w1⟩ := q1
  obtain ⟨z2, h2', w2⟩ := q2
  obtain ⟨z3, h3', w3⟩ := q3
  obtain ⟨z4, h4', w4⟩ := q4
  obtain ⟨xs, tk, h5', htk, hln, hall⟩ := q5
  rw [maxLen_eq] at hln
  obtain ⟨l, rfl, hl'⟩ := list_of (f := AVal.int .i64) (q := I64) (fun x hx => argI (n := n) hx.1 hx.2) hall
  simp at h0 h1' h2' h3' h4' h5'
  subst h0; subst h1'; subst h2'; subst h3'; subst h4'; subst h5'
  refine ⟨⟨z0, z1, z2, z3, UInt8.ofNat z4.toNat, l, tk⟩, ?_, by simpa using hln, ?_, wf_i64 w1⟩
  · rw [hx, hl]
    show _ = AVal.agg [_, _, _, _, byteV _, _]
    rw [← byte_of (wf_u8 w4)]
  · rcases htk with rfl | ⟨rfl, h⟩
    · exact .inl rfl
    · exact .inr ⟨rfl, by simpa using h⟩
theorem argP {n : Nat} {x : AVal} (h1 : mk (isSt Tryz.prog 40) x.cells = some x) (h2 : okA Tryz.prog (n + 4) 40 x.cells) : ∃ (l : List Stp) (tk : Abs.Tok), x = .sl (l.map Stp.val) tk ∧ (∀ o ∈ l, o.ok) ∧ l.length ≤ 9223372036854775807 := by
  have hst : isSt Tryz.prog 40 = false := by kernel_rfl
  rw [hst] at h1
  rw [okA] at h2
  simp only [Tryz.underlying40] at h2
  obtain ⟨xs, tk, hx, htk, hlen, hall⟩ := h2
  rw [maxLen_eq] at hlen
  obtain ⟨l, rfl, hl⟩ := list_of (f := Stp.val) (q := Stp.ok) (fun x hx => argX (n := n) hx.1 hx.2) hall
  exact ⟨l, tk, mk_one (ag := false) h1 hx, hl, by simpa using hlen⟩
end Go.Proofs.YtjofjgflcogklaaGreatDoor

namespace Go.Proofs.YtjofjgflcogklaaGreatDoor
open Go Go.Abs Go.Sha Go.Jn
theorem wrAll_trip : ∀ (ss : List Bs) (D : Dsk) (a : Nat), D.off = false → a + ss.length ≤ D.s.length → (∀ s ∈ ss, s.length = 64) →
    (wrAll D a ss).2.s.length = D.s.length ∧
    (∀ i, i < D.s.length → nth (wrAll D a ss).2.s i = nth D.s i ∨ ∃ h : a ≤ i ∧ i < a + ss.length ∧ (nth ss (i - a)).length = 64, nth (wrAll D a ss).2.s i = { nth D.s i with next := some ⟨nth ss (i - a), h.2.2⟩ }) ∧
    (((wrAll D a ss).1 = 0 ∧ (wrAll D a ss).2.off = false ∧ ∀ i, a ≤ i → i < a + ss.length → ∃ h : (nth ss (i - a)).length = 64, nth (wrAll D a ss).2.s i = { nth D.s i with next := some ⟨nth ss (i - a), h⟩ }) ∨ ((wrAll D a ss).1 = 21 ∧ (wrAll D a ss).2.off = true))
  | [], D, a, h1, _, _ => ⟨rfl, fun i _ => .inl rfl, .inl ⟨rfl, h1, fun i q q' => by simp at q'; omega⟩⟩
  | s :: ss, D, a, h1, h3, h4 => by
    have h64 := h4 s (by simp)
    simp only [List.length_cons] at h3
    by_cases hl : D.left = some 0
    · have hw : D.write (a : Int) s = (21, { D with off := true }) := by
        unfold Dsk.write
        rw [h1, if_neg (by simp), if_neg (by omega), dif_pos h64, if_pos hl]
      have e : wrAll D a (s :: ss) = (21, { D with off := true }) := by rw [wrAll, hw, if_neg (by simp)]
      rw [e]
      exact ⟨rfl, fun i _ => .inl rfl, .inr ⟨rfl, rfl⟩⟩
    · obtain ⟨E, hE⟩ : ∃ E : Dsk, E = { D with left := stepL D.left, s := D.s.set a { nth D.s a with next := some (⟨s, h64⟩ : B64) } } := ⟨_, rfl⟩
      have hw : D.write (a : Int) s = (0, E) := by
        unfold Dsk.write
        rw [h1, if_neg (by simp), if_neg (by omega), dif_pos h64, if_neg hl, hE]
        simp only [Int.toNat_natCast]
        rw [← h1]
      have e : wrAll D a (s :: ss) = wrAll E (a + 1) ss := by rw [wrAll, hw, if_pos rfl]
      have El : E.s.length = D.s.length := by rw [hE]; simp
      have Eo : E.off = false := by rw [hE]; exact h1
      have En : ∀ i, nth E.s i = if i = a then { nth D.s a with next := some (⟨s, h64⟩ : B64) } else nth D.s i := fun i => by rw [hE]; exact nth_set _ (by omega) i
      obtain ⟨q1, q2, q3⟩ := wrAll_trip ss E (a + 1) Eo (by omega) (fun s hs => h4 s (by simp [hs]))
      have en : ∀ i, a + 1 ≤ i → nth (s :: ss) (i - a) = nth ss (i - (a + 1)) := fun i hi => by
        rw [show i - a = (i - (a + 1)) + 1 by omega]; simp [nth]
      rw [e]
      refine ⟨q1.trans El, fun i hi => ?_, ?_⟩
      · rcases q2 i (by omega) with r | ⟨⟨r1, r2, r3⟩, r4⟩
        · by_cases hia : i = a
          · subst hia
            refine .inr ⟨⟨Nat.le_refl _, by simp, by rw [Nat.sub_self]; exact h64⟩, ?_⟩
            rw [r, En, if_pos rfl]
            simp [Nat.sub_self, nth]
          · rw [r, En, if_neg hia]; exact .inl rfl
        · refine .inr ⟨⟨by omega, by simp; omega, by rw [en i r1]; exact r3⟩, ?_⟩
          rw [r4, En, if_neg (by omega)]
          simp only [en i r1]
      · rcases q3 with ⟨r1, r2, r3⟩ | r
        · refine .inl ⟨r1, r2, fun i i1 i2 => ?_⟩
          simp only [List.length_cons] at i2
          by_cases hia : i = a
          · subst hia
            refine ⟨by rw [Nat.sub_self]; exact h64, ?_⟩
            rcases q2 i (by omega) with r | ⟨⟨r1, _, _⟩, _⟩
            · rw [r, En, if_pos rfl]
              simp [Nat.sub_self, nth]
            · omega
          · obtain ⟨g, r⟩ := r3 i (by omega) (by omega)
            refine ⟨by rw [en i (by omega)]; exact g, ?_⟩
            rw [r, En, if_neg hia]
            simp only [en i (show a + 1 ≤ i by omega)]
        · exact .inr r
theorem mountS_ex (p : Nat → Int) : ∀ (l : List Sec) (k i : Nat), i < l.length → ∃ q : Int, nth (mountS p l k) i = if (nth l i).next.isSome then settle (nth l i) q else nth l i
  | [], _, _, h => by simp at h
  | x :: l, k, 0, _ => by
    have hx : nth (x :: l) 0 = x := rfl
    simp only [mountS, hx]
    cases hn : x.next with
    | none => exact ⟨0, by simp [nth]⟩
    | some v => exact ⟨p k, by simp [nth]⟩
  | x :: l, k, i + 1, h => by
    have hx : nth (x :: l) (i + 1) = nth l i := rfl
    rw [hx]
    simp only [mountS]
    cases hn : x.next with
    | none => exact mountS_ex p l k i (by simpa using h)
    | some v => exact mountS_ex p l (k + 1) i (by simpa using h)
theorem settle_text {x : Sec} {v : B64} (hn : x.next = some v) (hw : x.worn = false) (q : Int) : ∃ k, k ≤ 64 ∧ (settle x q).text.1 = v.1.take k ++ x.text.1.drop k ∧ (settle x q).next = none := by
  refine ⟨clampP q, clampP_le q, ?_⟩
  unfold settle
  rw [hn]
  simp only [hw, Bool.false_eq_true, if_false]
  exact ⟨rfl, trivial⟩
theorem power {D : Dsk} {ss : List Bs} {a : Nat} (picks : List Int) (ho : D.off = false) (hn : ∀ x ∈ D.s, x.next = none) (hw : ∀ x ∈ D.s, x.worn = false) (ha : a + ss.length ≤ D.s.length) (h64 : ∀ s ∈ ss, s.length = 64) :
    ∃ M : Dsk, M = (writeJ D a ss).2.mount picks ∧ M.off = false ∧ M.left = none ∧ (∀ x ∈ M.s, x.next = none) ∧ M.s.length = D.s.length ∧
      (∀ i, i < D.s.length → ¬ (a ≤ i ∧ i < a + ss.length) → nth (conts M) i = nth (conts D) i) ∧
      (∀ i, a ≤ i → i < a + ss.length → ∃ k, k ≤ 64 ∧ nth (conts M) i = (nth ss (i - a)).take k ++ (nth (conts D) i).drop k) ∧
      ((writeJ D a ss).1 = (0, true) ∧ (∀ i, a ≤ i → i < a + ss.length → nth (conts M) i = nth ss (i - a)) ∨ (writeJ D a ss).1.1 = 21) := by
  obtain ⟨q1, q2, q3⟩ := wrAll_trip ss D a ho ha h64
  have dn : ∀ i, i < D.s.length → (nth D.s i).next = none := fun i hi => hn _ (nth_mem hi)
  have dw : ∀ i, i < D.s.length → (nth D.s i).worn = false := fun i hi => hw _ (nth_mem hi)
  obtain ⟨E, hE⟩ : ∃ E, E = (writeJ D a ss).2 := ⟨_, rfl⟩
  -- each sector behind the writes: as it was, pending, or settled
  have key : E.s.length = D.s.length ∧ (∀ i, i < D.s.length → nth E.s i = nth D.s i ∨ (∃ h : a ≤ i ∧ i < a + ss.length ∧ (nth ss (i - a)).length = 64, nth E.s i = { nth D.s i with next := some ⟨nth ss (i - a), h.2.2⟩ }) ∨ ∃ h : a ≤ i ∧ i < a + ss.length ∧ (nth ss (i - a)).length = 64, nth E.s i = ⟨⟨nth ss (i - a), h.2.2⟩, none, false⟩) ∧
      ((writeJ D a ss).1 = (0, true) ∧ (∀ i, a ≤ i → i < a + ss.length → ∃ h : (nth ss (i - a)).length = 64, nth E.s i = ⟨⟨nth ss (i - a), h⟩, none, false⟩) ∨ (writeJ D a ss).1.1 = 21) := by
    rcases q3 with ⟨r1, r2, r3⟩ | ⟨r1, r2⟩
    · by_cases hl : (wrAll D a ss).2.left = some 0
      · have hf : (wrAll D a ss).2.flush = (21, { (wrAll D a ss).2 with off := true }) := by
          unfold Dsk.flush
          rw [r2, if_neg (by simp), if_pos hl]
        have e : writeJ D a ss = ((21, false), { (wrAll D a ss).2 with off := true }) := by
          unfold writeJ
          rw [if_pos r1, hf, if_neg (by simp)]
        rw [e] at hE ⊢
        subst hE
        exact ⟨q1, fun i hi => (q2 i hi).elim .inl (fun h => .inr (.inl h)), .inr rfl⟩
      · obtain ⟨G, hG⟩ : ∃ G : Dsk, G = { (wrAll D a ss).2 with left := stepL (wrAll D a ss).2.left, s := mountS (fun _ => 64) (wrAll D a ss).2.s 0 } := ⟨_, rfl⟩
        have hf : (wrAll D a ss).2.flush = (0, G) := by
          unfold Dsk.flush
          rw [r2, if_neg (by simp), if_neg hl, hG, ← r2]
        have Go : G.off = false := by rw [hG]; exact r2
        have Gl : G.s.length = D.s.length := by rw [hG]; show (mountS _ _ _).length = _; rw [mountS64_len, q1]
        have Gn : ∀ i, i < D.s.length → nth G.s i = nth D.s i ∨ ∃ h : a ≤ i ∧ i < a + ss.length ∧ (nth ss (i - a)).length = 64, nth G.s i = ⟨⟨nth ss (i - a), h.2.2⟩, none, false⟩ := by
          intro i hi
          rw [hG]
          dsimp only
          rw [mountS64_nth _ 0 i (by omega) (by cases (nth (wrAll D a ss).2.s i).next with | none => exact .inl rfl | some v => exact .inr ⟨v, rfl⟩)]
          rcases q2 i hi with r | ⟨h, r⟩
          · rw [r, dn i hi]; exact .inl rfl
          · rw [r, dw i hi]; exact .inr ⟨h, rfl⟩
        have Gi : ∀ i, a ≤ i → i < a + ss.length → ∃ h : (nth ss (i - a)).length = 64, nth G.s i = ⟨⟨nth ss (i - a), h⟩, none, false⟩ := by
          intro i i1 i2
          obtain ⟨h, r⟩ := r3 i i1 i2
          refine ⟨h, ?_⟩
          rw [hG]
          dsimp only
          rw [mountS64_nth _ 0 i (by omega) (by cases (nth (wrAll D a ss).2.s i).next with | none => exact .inl rfl | some v => exact .inr ⟨v, rfl⟩), r, dw i (by omega)]
          rfl
        have hr := rdAll_ok G Go ss a true (by omega)
        have hd : (∀ k, k < ss.length → nth ss k = nth (conts G) (a + k)) := by
          intro k hk
          obtain ⟨h, r⟩ := Gi (a + k) (by omega) (by omega)
          rw [nth_conts G (by omega), r]
          simp only [Nat.add_sub_cancel_left]
          rfl
        rw [decide_eq_true hd] at hr
        have e : writeJ D a ss = ((0, true), G) := by
          unfold writeJ
          rw [if_pos r1, hf, if_pos rfl, hr]; rfl
        rw [e] at hE ⊢
        subst hE
        exact ⟨Gl, fun i hi => (Gn i hi).elim .inl (fun h => .inr (.inr h)), .inl ⟨rfl, Gi⟩⟩
    · have e : writeJ D a ss = ((21, false), (wrAll D a ss).2) := by
        unfold writeJ
        rw [if_neg (by omega), r1]
      rw [e] at hE ⊢
      subst hE
      exact ⟨q1, fun i hi => (q2 i hi).elim .inl (fun h => .inr (.inl h)), .inr rfl⟩
  obtain ⟨k1, k2, k3⟩ := key
  have hM : (writeJ D a ss).2.mount picks = ⟨mountS (pickF picks) E.s 0, false, none⟩ := by rw [← hE]; rfl
  have Ml : (mountS (pickF picks) E.s 0).length = D.s.length := by rw [mountS_len, k1]
  have hc : ∀ i, i < D.s.length → nth (conts D) i = (nth D.s i).text.1 := fun i hi => by rw [nth_conts D hi, dn i hi]; rfl
  have part : ∀ i, i < D.s.length → (nth (mountS (pickF picks) E.s 0) i).next = none ∧ ((nth E.s i = nth D.s i ∧ (nth (mountS (pickF picks) E.s 0) i).text.1 = nth (conts D) i) ∨
      (a ≤ i ∧ i < a + ss.length) ∧ (∃ k, k ≤ 64 ∧ (nth (mountS (pickF picks) E.s 0) i).text.1 = (nth ss (i - a)).take k ++ (nth (conts D) i).drop k)) := by
    intro i hi
    obtain ⟨q, hq⟩ := mountS_ex (pickF picks) E.s 0 i (by omega)
    rcases k2 i hi with r | ⟨⟨h1, h2, h3⟩, r⟩ | ⟨⟨h1, h2, h3⟩, r⟩
    · rw [r, dn i hi] at hq
      simp only [Option.isSome_none, Bool.false_eq_true, if_false] at hq
      rw [hq, hc i hi]
      exact ⟨dn i hi, .inl ⟨r, rfl⟩⟩
    · rw [if_pos (by rw [r]; rfl)] at hq
      obtain ⟨k, g1, g2, g3⟩ := settle_text (x := nth E.s i) (v := ⟨nth ss (i - a), h3⟩) (by rw [r]) (by rw [r]; exact dw i hi) q
      rw [← hq] at g2 g3
      refine ⟨g3, .inr ⟨⟨h1, h2⟩, k, g1, ?_⟩⟩
      rw [g2, hc i hi, r]
    · rw [r] at hq
      simp only [Option.isSome_none, Bool.false_eq_true, if_false] at hq
      rw [hq]
      refine ⟨rfl, .inr ⟨⟨h1, h2⟩, 64, Nat.le_refl _, ?_⟩⟩
      have := conts_64 D hi
      rw [List.take_of_length_le (by omega), List.drop_eq_nil_of_le (by omega), List.append_nil]
  refine ⟨_, hM.symm, rfl, rfl, ?_, Ml, ?_, ?_, ?_⟩
  · intro x hx
    obtain ⟨i, hi, rfl⟩ := List.mem_iff_getElem.1 hx
    rw [← nth_eq hi]
    exact (part i (by rw [← Ml]; exact hi)).1
  · intro i hi no
    obtain ⟨p1, p2⟩ := part i hi
    rw [nth_conts _ (by rw [Ml]; exact hi)]
    dsimp only
    rw [p1]
    rcases p2 with p2 | ⟨p2, _⟩
    · exact p2.2
    · exact absurd p2 no
  · intro i h1 h2
    obtain ⟨p1, p2⟩ := part i (by omega)
    rw [nth_conts _ (by rw [Ml]; omega)]
    dsimp only
    rw [p1]
    rcases p2 with p2 | ⟨_, k, g1, g2⟩
    · exact ⟨0, by omega, by simpa using p2.2⟩
    · exact ⟨k, g1, g2⟩
  · rcases k3 with ⟨c1, c2⟩ | c
    · refine .inl ⟨c1, fun i h1 h2 => ?_⟩
      obtain ⟨h, r⟩ := c2 i h1 h2
      obtain ⟨q, hq⟩ := mountS_ex (pickF picks) E.s 0 i (by omega)
      rw [r] at hq
      simp only [Option.isSome_none, Bool.false_eq_true, if_false] at hq
      rw [nth_conts _ (by rw [Ml]; omega)]
      dsimp only
      rw [hq]; rfl
    · exact .inr c
theorem unpack_fld {c : Bs} {p : Prt} (h : unpack c = some p) : fld c = p := by
  unfold unpack at h
  split at h
  · exact Option.some.inj h
  · simp at h
theorem sec4 (n : Nat) (t : Bs) (i : Nat) : (sector n t i).take 4 = small n 4 := by
  have hb := body_len n i (t.drop (48 * i))
  have := checked_part (body n i (t.drop (48 * i))) 0 4 (by omega)
  rw [List.drop_zero, List.drop_zero] at this
  rw [sector, this, body, List.take_left' (small_len _ _)]
theorem sec6 (n : Nat) (t : Bs) (i : Nat) : ((sector n t i).drop 4).take 2 = small i 2 := by
  have hb := body_len n i (t.drop (48 * i))
  rw [sector, checked_part _ 4 2 (by omega), body, List.drop_left' (small_len _ _), List.take_left' (small_len _ _)]
theorem nth_drop {l : Bs} (a j : Nat) (h : a + j < l.length) : nth (l.drop a) j = nth l (a + j) := by
  rw [nth_eq (by rw [List.length_drop]; omega), nth_eq h, List.getElem_drop]
theorem nth_small (n m j : Nat) (h : j < m) : nth (small n m) j = UInt8.ofNat (n / 256 ^ j) := by
  rw [nth_eq (by rw [small_len]; exact h)]; simp [Jn.small]
theorem take_eq {c d : Bs} {m : Nat} (hc : m ≤ c.length) (hd : d.length = m) (h : ∀ j, j < m → nth c j = nth d j) : c.take m = d := by
  refine ext_nth (by rw [List.length_take]; omega) fun j hj => ?_
  rw [List.length_take] at hj
  rw [nth_take (by omega)]; exact h j (by omega)
theorem torn {n : Nat} {t : Bs} {i k : Nat} {c : Bs} (h1 : 1 ≤ n) (h2 : n ≤ 255) (h3 : t.length ≤ 8000) (hi : i < count t.length) (hk : k ≤ 64) (hc : c = (sector n t i).take k ++ zero64.drop k)
    (hgen : ∀ p, unpack c = some p → p.number = n → p.part < count t.length ∧ c = sector n t p.part) : c = sector n t i ∨ unpack c = none := by
  cases hu : unpack c with
  | none => exact .inr rfl
  | some p =>
    refine .inl ?_
    have hf := unpack_fld hu
    have hsl := sector_len n t i
    have hzl : zero64.length = 64 := rfl
    have hz : ∀ j, j < 64 → nth zero64 j = 0 := fun j hj => nth_replicate _ _ hj
    have hcn : ∀ j, j < 64 → nth c j = if j < k then nth (sector n t i) j else 0 := by
      intro j hj
      rw [hc]
      by_cases q : j < k
      · rw [if_pos q, nth_append_left (by rw [List.length_take]; omega), nth_take q]
      · rw [if_neg q, nth_append_right (by rw [List.length_take]; omega), List.length_take, hsl, Nat.min_eq_left hk]
        have : nth (zero64.drop k) (j - k) = nth zero64 j := by
          rw [nth_eq (by rw [List.length_drop]; omega), nth_eq (by omega), List.getElem_drop]
          congr 1; omega
        rw [this, hz j hj]
    have hcl : c.length = 64 := by rw [hc, List.length_append, List.length_take, List.length_drop, hsl, hzl]; omega
    have hk0 : k ≠ 0 := by
      rintro rfl
      have : c = zero64 := by rw [hc]; simp
      rw [this, unpack_zero] at hu
      simp at hu
    have s4 : ∀ j, j < 4 → nth (sector n t i) j = UInt8.ofNat (n / 256 ^ j) := fun j hj => by
      rw [← nth_small n 4 j hj, ← sec4 n t i, nth_take hj]
    have n0 : ∀ j, 1 ≤ j → UInt8.ofNat (n / 256 ^ j) = 0 := fun j hj => by
      have : n / 256 ^ j = 0 := Nat.div_eq_of_lt (Nat.lt_of_lt_of_le (show n < 256 ^ 1 by omega) (Nat.pow_le_pow_right (by omega) hj))
      rw [this]; rfl
    have hnum : p.number = n := by
      have e : c.take 4 = small n 4 := take_eq (by omega) (small_len _ _) fun j hj => by
        rw [hcn j (by omega), nth_small n 4 j hj]
        split
        · exact s4 j hj
        · rw [n0 j (by omega)]
      rw [← hf]
      show num (c.take 4) = n
      rw [e, num_small 4 n (by omega)]
    obtain ⟨hp, e⟩ := hgen p hu hnum
    have hg := good_sector n t p.part h1 (by omega) h3 hp
    rw [← e, hu] at hg
    have hleft : p.left = t.length - 48 * p.part := by
      have := Option.some.inj hg
      exact congrArg Prt.left this
    have hcl2 := count_le t.length
    by_cases h6 : 6 ≤ k
    · have e1 : (c.drop 4).take 2 = small i 2 := take_eq (by rw [List.length_drop]; omega) (small_len _ _) fun j hj => by
        rw [nth_drop 4 j (by omega), hcn _ (by omega), if_pos (by omega), ← nth_drop 4 j (by omega), ← sec6 n t i, nth_take hj]
      rw [e, sec6] at e1
      have e2 := congrArg num e1
      rw [num_small 2 _ (by omega), num_small 2 _ (by omega)] at e2
      rw [e, e2]
    · have e1 : (c.drop 6).take 2 = [0, 0] := take_eq (by rw [List.length_drop]; omega) rfl fun j hj => by
        rw [nth_drop 6 j (by omega), hcn _ (by omega), if_neg (by omega)]
        match j, hj with
        | 0, _ => rfl
        | 1, _ => rfl
      have e2 : p.left = 0 := by
        rw [← hf]
        show num ((c.drop 6).take 2) = 0
        rw [e1]; rfl
      have hc1 := count_lt t.length h3 hp
      have hp0 : p.part = 0 := by omega
      have hl0 : t.length = 0 := by omega
      have hi0 : i = 0 := by
        rw [count_nat t.length h3, if_pos hl0] at hi
        omega
      rw [e, hp0, hi0]
theorem found_last {S : List (Seg × Bool)} {J : Jst} {D : Dsk} (g : GInv S J D) {t : Bs} {M : Dsk} (hl : M.s.length = D.s.length) (hN : J.next ≤ 255) (ht : t.length ≤ 8000) (hfit : J.fin + count t.length ≤ D.s.length)
    (hout : ∀ i, i < D.s.length → ¬ (J.fin ≤ i ∧ i < J.fin + count t.length) → nth (conts M) i = nth (conts D) i)
    (hin : ∀ k, k < count t.length → nth (conts M) (J.fin + k) = sector J.next t k ∨ unpack (nth (conts M) (J.fin + k)) = none) :
    ((∀ k, k < count t.length → nth (conts M) (J.fin + k) = sector J.next t k) → (openJ (conts M)).recs = J.recs ++ [(J.next, t)]) ∧
    ((∃ k, k < count t.length ∧ unpack (nth (conts M) (J.fin + k)) = none) → (openJ (conts M)).recs = J.recs) := by
  have hn1 := g.n1
  obtain ⟨F, hF⟩ : ∃ F, F = S.flatMap (·.1.l) := ⟨_, rfl⟩
  have hcon := g.con
  have hfin := g.fin
  rw [← hF] at hcon hfin
  obtain ⟨mid, hmid⟩ : ∃ mid, mid = (List.range (count t.length)).map fun k => nth (conts M) (J.fin + k) := ⟨_, rfl⟩
  have hml : mid.length = count t.length := by rw [hmid]; simp
  have hmn : ∀ k, k < count t.length → nth mid k = nth (conts M) (J.fin + k) := by
    intro k hk
    rw [nth_eq (by omega)]; simp [hmid]
  have hE : conts M = (F ++ mid) ++ List.replicate (M.s.length - (J.fin + count t.length)) zero64 := by
    refine ext_nth (by rw [conts_len, List.length_append, List.length_append, List.length_replicate]; omega) fun i hi => ?_
    rw [conts_len, hl] at hi
    by_cases q1 : i < J.fin
    · rw [hout i hi (by omega), hcon, nth_append_left (by omega), nth_append_left (by rw [List.length_append]; omega), nth_append_left (by omega)]
    · by_cases q2 : i < J.fin + count t.length
      · rw [nth_append_left (by rw [List.length_append]; omega), nth_append_right (by omega), hmn _ (by omega)]
        congr 1; omega
      · rw [nth_append_right (by rw [List.length_append]; omega), nth_replicate _ _ (by rw [List.length_append]; omega), hout i hi (by omega), hcon, nth_append_right (by omega), nth_replicate _ _ (by omega)]
  have all : ∀ b : Bool, (b = true → mid = pack J.next t) → (b = false → ∃ k, k < count t.length ∧ unpack (nth mid k) = none) → (openJ (conts M)).recs = J.recs ++ (if b then [(J.next, t)] else []) := by
    intro b hb1 hb2
    have e : conts M = (S ++ [((⟨J.next, t, mid⟩ : Seg), b)]).flatMap (·.1.l) ++ List.replicate (M.s.length - (J.fin + count t.length)) zero64 := by
      rw [hE, List.flatMap_append, ← hF]; simp
    show scanS ((conts M).map unpack) 0 [] = _
    rw [e, scan_segs]
    · rw [List.filter_append, List.map_append, g.recs]
      cases b <;> simp
    · intro x hx
      rcases List.mem_append.1 hx with hx | hx
      · exact g.ok x hx
      · simp at hx; subst hx
        exact ⟨hn1, by show J.next ≤ 4096; omega, ht, hml, fun k hk => by
          show nth mid k = _ ∨ unpack (nth mid k) = _
          rw [hmn k hk]; exact hin k hk⟩
    · intro x hx
      rcases List.mem_append.1 hx with hx | hx
      · exact g.yes x hx
      · simp at hx; subst hx; exact hb1
    · intro x hx
      rcases List.mem_append.1 hx with hx | hx
      · exact g.no x hx
      · simp at hx; subst hx; exact hb2
    · rw [List.pairwise_append]
      refine ⟨g.inc, by simp, fun x hx y hy => ?_⟩
      simp at hy; subst hy
      exact g.lt x hx
    · simp
  constructor
  · intro hw
    have := all true (fun _ => ext_nth (by rw [hml, pack_len]) fun k hk => by rw [hmn k (by omega), hw k (by omega), nth_pack _ _ (by omega)]) (by simp)
    simpa using this
  · rintro ⟨k, hk, hz⟩
    have := all false (by simp) (fun _ => ⟨k, hk, by rw [hmn k hk]; exact hz⟩)
    simpa using this
theorem survive {S : List (Seg × Bool)} {J : Jst} {D : Dsk} (g : GInv S J D) (hw : ∀ x ∈ D.s, x.worn = false) (hN : J.next ≤ 255) (n : Int) (t : Bs) (picks : List Int)
    (hgen : ∀ i, i < D.s.length → ∀ p, unpack (nth (conts ((appendJ J (D.trip n) t).2.2.mount picks)) i) = some p → p.number = J.next → p.part < count t.length ∧ nth (conts ((appendJ J (D.trip n) t).2.2.mount picks)) i = sector J.next t p.part) :
    ((appendJ J (D.trip n) t).2.2.mount picks).off = false ∧ ((openJ (conts ((appendJ J (D.trip n) t).2.2.mount picks))).recs = J.recs ++ [(J.next, t)] ∨ (appendJ J (D.trip n) t).1.2 ≠ 0 ∧ (openJ (conts ((appendJ J (D.trip n) t).2.2.mount picks))).recs = J.recs) := by
  refine ⟨rfl, ?_⟩
  have Ts : (D.trip n).s = D.s := rfl
  have Tc : conts (D.trip n) = conts D := rfl
  have still : (openJ (conts ((D.trip n).mount picks))).recs = J.recs := by
    have : conts ((D.trip n).mount picks) = conts D := by
      refine ext_nth (by rw [conts_len, conts_len]; exact mountS_len _ _ _) fun i hi => ?_
      have hi' : i < D.s.length := by rw [conts_len] at hi; simpa [Dsk.mount, Dsk.trip, mountS_len] using hi
      have hn := g.nx _ (nth_mem hi')
      obtain ⟨q, hq⟩ := mountS_ex (pickF picks) D.s 0 i hi'
      rw [if_neg (by rw [hn]; simp)] at hq
      rw [nth_conts _ (by rw [conts_len] at hi; exact hi), nth_conts _ hi']
      show ((nth (mountS (pickF picks) D.s 0) i).next.getD (nth (mountS (pickF picks) D.s 0) i).text).1 = _
      rw [hq]
    rw [this, g.found]
  by_cases h2 : 8000 < t.length ∨ 4096 < J.next
  · have e : appendJ J (D.trip n) t = ((0, 4), (J, D.trip n)) := by rw [appendJ, if_neg (by simp [g.closed]), if_pos h2]
    rw [e]; exact .inr ⟨by simp, still⟩
  · by_cases h3 : ((D.trip n).s.length : Int) - (J.fin : Int) < (count t.length : Int)
    · have e : appendJ J (D.trip n) t = ((0, 20), (J, D.trip n)) := by rw [appendJ, if_neg (by simp [g.closed]), if_neg h2, if_pos h3]
      rw [e]; exact .inr ⟨by simp, still⟩
    · have e := appendJ_go (J := J) (D := D.trip n) (t := t) g.closed h2 h3
      rw [Ts] at h3
      have hle := g.le
      have hn1 := g.n1
      have h64 : ∀ s ∈ pack J.next t, s.length = 64 := by
        intro s hs
        obtain ⟨k, _, rfl⟩ := List.mem_map.1 hs
        exact sector_len _ _ _
      have pl := pack_len J.next t
      obtain ⟨M, hM, m1, m2, m3, m4, m5, m6, m7⟩ := power (D := D.trip n) (ss := pack J.next t) (a := J.fin) picks g.off g.nx hw (by rw [Ts, pl]; omega) h64
      rw [pl] at m5 m6 m7
      rw [Tc, Ts] at m5
      rw [Tc] at m6
      rw [Ts] at m4
      have hA : (appendJ J (D.trip n) t).2.2.mount picks = M := by
        rw [hM, e]
        split
        · split <;> rfl
        · rfl
      rw [hA] at hgen ⊢
      have hz : ∀ i, J.fin ≤ i → i < D.s.length → nth (conts D) i = zero64 := by
        intro i q1 q2
        have := g.fin
        rw [g.con, nth_append_right (by omega), nth_replicate _ _ (by omega)]
      have hin : ∀ k, k < count t.length → nth (conts M) (J.fin + k) = sector J.next t k ∨ unpack (nth (conts M) (J.fin + k)) = none := by
        intro k hk
        obtain ⟨q, q1, q2⟩ := m6 (J.fin + k) (by omega) (by omega)
        rw [Nat.add_sub_cancel_left, nth_pack _ _ hk, hz _ (by omega) (by omega)] at q2
        exact torn hn1 hN (by omega) hk q1 q2 (hgen (J.fin + k) (by omega))
      obtain ⟨f1, f2⟩ := found_last g m4 hN (by omega) (by omega) m5 hin
      by_cases hall : ∀ k, k < count t.length → nth (conts M) (J.fin + k) = sector J.next t k
      · exact .inl (f1 hall)
      · have hex : ∃ k, k < count t.length ∧ unpack (nth (conts M) (J.fin + k)) = none := Classical.byContradiction fun no => hall fun k hk => (hin k hk).resolve_right fun h => no ⟨k, hk, h⟩
        refine .inr ⟨?_, f2 hex⟩
        rcases m7 with ⟨w1, w2⟩ | w
        · exact absurd (fun k hk => by rw [w2 (J.fin + k) (by omega) (by omega), Nat.add_sub_cancel_left, nth_pack _ _ hk]) hall
        · rw [e, w]; simp
end Go.Proofs.YtjofjgflcogklaaGreatDoor

namespace Go.Proofs.YtjofjgflcogklaaGreatDoor
open Go Go.Abs Go.Sha Go.Jn
structure Cln (S : List (Seg × Bool)) (J : Jst) (D : Dsk) : Prop where
  g : GInv S J D
  w : ∀ x ∈ D.s, x.worn = false
  all : ∀ x ∈ S, x.2 = true
  num : S.map (·.1.n) = (List.range S.length).map (· + 1)
  next : J.next = S.length + 1
theorem Cln.step {S : List (Seg × Bool)} {J : Jst} {D : Dsk} (c : Cln S J D) (t : Bs) (C : Int) (J' : Jst) (D' : Dsk) (n : Int) (he : appendJ J D t = ((n, C), (J', D'))) :
    (∃ S', Cln S' J' D' ∧ S'.length ≤ S.length + 1) ∧ D'.s.length = D.s.length ∧ ((C = 0 ∧ J'.recs = J.recs ++ [(J.next, t)]) ∨ ((C = 4 ∨ C = 20) ∧ J'.recs = J.recs)) := by
  obtain ⟨S', g', h1, h2, h3, h4, h5, h6⟩ := c.g.step1 t C J' D' n he
  have hw : ∀ i, i < D.s.length → (nth D.s i).worn = false := fun i hi => c.w _ (nth_mem hi)
  have hw' : ∀ x ∈ D'.s, x.worn = false := by
    intro x hx
    obtain ⟨i, hi, rfl⟩ := List.mem_iff_getElem.1 hx
    rw [← nth_eq hi, h2 i (by omega)]
    exact hw i (by omega)
  rcases h6 with ⟨hC, _, hr, hn⟩ | ⟨_, hC, hr, _⟩
  · obtain ⟨l, rfl⟩ := h4 hC
    refine ⟨⟨_, ⟨g', hw', ?_, ?_, ?_⟩, by simp⟩, h1, .inl ⟨hC, hr⟩⟩
    · intro x hx
      rcases List.mem_append.1 hx with hx | hx
      · exact c.all x hx
      · simp at hx; subst hx; rfl
    · rw [List.map_append, c.num, List.length_append, List.length_cons, List.length_nil, Nat.zero_add, List.range_succ, List.map_append]
      simp [c.next]
    · rw [hn, c.next]; simp
  · have hC' : C = 4 ∨ C = 20 := by
      rcases hC with q | q | q
      · exact .inl q
      · exact .inr q
      · exact absurd q (h3 hw)
    obtain ⟨rfl, rfl, rfl⟩ := h5 hC'
    exact ⟨⟨_, c, by omega⟩, h1, .inr ⟨hC', hr⟩⟩
theorem Cln.fresh (n : Nat) : Cln [] ⟨[], [], 1, 0, false⟩ (freshD n) :=
  ⟨(virgin_fresh n).inv, fun x hx => by
    simp only [freshD, List.mem_replicate] at hx
    rw [hx.2], by simp, rfl, rfl⟩
theorem Cln.len {S : List (Seg × Bool)} {J : Jst} {D : Dsk} (c : Cln S J D) : J.recs.length = S.length := by
  rw [c.g.recs, List.length_map, List.filter_eq_self.2 c.all]
theorem Cln.nums {S : List (Seg × Bool)} {J : Jst} {D : Dsk} (c : Cln S J D) : J.nums = (List.range S.length).map (· + 1) := by
  rw [← c.num, Jst.nums, c.g.recs, List.filter_eq_self.2 c.all, List.map_map]
  rfl
theorem heads_lt (l : List Bs) (N : Nat) (hN : 1 ≤ N) (h : ∀ i, i < l.length → numO (unpack (nth l i)) < N) : ∀ k, k ≤ l.length → (heads l k).next ≤ N
  | 0, _ => by simp [heads]; omega
  | k + 1, hk => by
    have i1 := heads_lt l N hN h k (by omega)
    have i2 := h k (by omega)
    simp only [heads, scanSec]
    omega
theorem heads_gt (l : List Bs) : ∀ k i, i < k → numO (unpack (nth l i)) < (heads l k).next
  | 0, i, hi => by omega
  | k + 1, i, hi => by
    simp only [heads, scanSec]
    by_cases e : i = k
    · subst e; omega
    · have := heads_gt l k i (by omega); omega
theorem heads_fin (l : List Bs) (F : Nat) (h1 : F = 0 ∨ Jn.blank (nth l (F - 1)) = false) (h2 : ∀ i, F ≤ i → Jn.blank (nth l i) = true) : ∀ k, F ≤ k → (heads l k).fin = F := by
  intro k
  induction k with
  | zero => intro h; obtain rfl : F = 0 := by omega
            rfl
  | succ k ih =>
    intro h
    simp only [heads, scanSec]
    by_cases e : F = k + 1
    · subst e
      rcases h1 with q | q
      · omega
      · rw [Nat.add_sub_cancel] at q
        rw [q]; rfl
    · rw [h2 k (by omega), if_pos rfl]; exact ih (by omega)
theorem blank_zero64 : Jn.blank zero64 = true := by rfl
theorem unpack_nb {s : Bs} {p : Prt} (h : unpack s = some p) : Jn.blank s = false := by
  cases hb : Jn.blank s with
  | false => rfl
  | true =>
    exfalso
    have hl : s.length = 64 := by
      by_cases hg : good s = true
      · exact ((good_iff s).1 hg).1
      · rw [unpack_none hg] at h; simp at h
    have := (blank_iff s hl).2 hb
    rw [this] at h
    have h2 : unpack zero64 = some p := h
    rw [unpack_zero] at h2
    simp at h2
theorem seg_good {g : Seg} (ok : g.ok) (hy : g.l = pack g.n g.t) {k : Nat} (hk : k < g.l.length) : ∃ p, unpack (nth g.l k) = some p ∧ p.number = g.n := by
  have hl := ok.len
  rw [hy, nth_pack _ _ (by omega), good_sector _ _ _ ok.n1 ok.n2 ok.t (by omega)]
  exact ⟨_, rfl, rfl⟩
theorem Cln.secs {S : List (Seg × Bool)} {J : Jst} {D : Dsk} (c : Cln S J D) {i : Nat} (hi : i < J.fin) : ∃ g ∈ S, ∃ p, unpack (nth (conts D) i) = some p ∧ p.number = g.1.n := by
  have hf := c.g.fin
  rw [c.g.con, nth_append_left (by omega)]
  have hm : nth (S.flatMap (·.1.l)) i ∈ S.flatMap (·.1.l) := nth_mem (by omega)
  obtain ⟨g, hg, hx⟩ := List.mem_flatMap.1 hm
  obtain ⟨k, hk, e⟩ := List.mem_iff_getElem.1 hx
  rw [← nth_eq hk] at e
  obtain ⟨p, hp, hn⟩ := seg_good (c.g.ok g hg) (c.g.yes g hg (c.all g hg)) hk
  rw [e] at hp
  exact ⟨g, hg, p, hp, hn⟩
theorem Cln.zer {S : List (Seg × Bool)} {J : Jst} {D : Dsk} (c : Cln S J D) {i : Nat} (h1 : J.fin ≤ i) (h2 : i < D.s.length) : nth (conts D) i = zero64 := by
  have hf := c.g.fin
  rw [c.g.con, nth_append_right (by omega), nth_replicate _ _ (by omega)]
theorem nth_out {l : List Bs} {i : Nat} (h : l.length ≤ i) : nth l i = [] := by
  simp [nth, List.getD, List.getElem?_eq_none h]
  first | rfl | skip
theorem Cln.opened {S : List (Seg × Bool)} {J : Jst} {D : Dsk} (c : Cln S J D) : Cln S (openJ (conts D)) D := by
  have hcl := conts_len D
  have hle := c.g.le
  have hfin := c.g.fin
  have e1 : (openJ (conts D)).fin = J.fin := by
    show (heads (conts D) (conts D).length).fin = J.fin
    refine heads_fin _ _ ?_ ?_ _ (by omega)
    · by_cases h0 : J.fin = 0
      · exact .inl h0
      · obtain ⟨g, _, p, hp, _⟩ := c.secs (i := J.fin - 1) (by omega)
        exact .inr (unpack_nb hp)
    · intro i hi
      by_cases h : i < D.s.length
      · rw [c.zer hi h]; exact blank_zero64
      · rw [nth_out (by omega)]; rfl
  have e2 : (openJ (conts D)).next = J.next := by
    refine Nat.le_antisymm (heads_lt _ _ c.g.n1 (fun i hi => ?_) _ (Nat.le_refl _)) ?_
    · by_cases h : i < J.fin
      · obtain ⟨g, hg, p, hp, hn⟩ := c.secs h
        rw [hp]
        show p.number < _
        rw [hn]; exact c.g.lt g hg
      · rw [c.zer (by omega) (by omega), unpack_zero]
        exact c.g.n1
    · rw [c.next]
      by_cases h0 : S.length = 0
      · rw [h0]; exact (heads_next (conts D) (conts D).length).1
      · have hm : S.length ∈ S.map (·.1.n) := by
          rw [c.num, List.mem_map]
          exact ⟨S.length - 1, by rw [List.mem_range]; omega, by omega⟩
        obtain ⟨g, hg, hn⟩ := List.mem_map.1 hm
        have hpos := count_pos _ (c.g.ok g hg).t
        have hl := (c.g.ok g hg).len
        have hx : nth g.1.l 0 ∈ S.flatMap (·.1.l) := List.mem_flatMap.2 ⟨g, hg, nth_mem (by omega)⟩
        obtain ⟨i, hi, e⟩ := List.mem_iff_getElem.1 hx
        rw [← nth_eq hi] at e
        obtain ⟨p, hp, hpn⟩ := seg_good (c.g.ok g hg) (c.g.yes g hg (c.all g hg)) (k := 0) (by omega)
        rw [← e] at hp
        have h3 : nth (conts D) i = nth (S.flatMap (·.1.l)) i := by rw [c.g.con, nth_append_left hi]
        have := heads_gt (conts D) (conts D).length i (by omega)
        rw [h3, hp] at this
        have h4 : p.number < (openJ (conts D)).next := this
        omega
  have e3 : (openJ (conts D)).closed = false := (heads_next (conts D) (conts D).length).2.2.2.1
  have e4 := c.g.found
  refine ⟨⟨c.g.off, c.g.left, c.g.nx, by rw [e1]; exact c.g.con, by rw [e1]; exact c.g.fin, by rw [e1]; exact c.g.le, c.g.ok, c.g.yes, c.g.no, by rw [e4]; exact c.g.recs, by rw [e2]; exact c.g.lt, c.g.inc, by rw [e2]; exact c.g.n1, by rw [e2]; exact c.g.n2, e3⟩, c.w, c.all, c.num, by rw [e2]; exact c.next⟩
theorem Cln.whole {S : List (Seg × Bool)} {J : Jst} {D : Dsk} (c : Cln S J D) : damaged J = [] := by
  rw [damaged, List.filter_eq_nil_iff]
  intro n hn
  rw [List.mem_range, c.next] at hn
  simp only [Bool.and_eq_true, decide_eq_true_eq, Bool.not_eq_true', decide_eq_false_iff_not, not_and, Decidable.not_not]
  intro h1
  rw [c.nums, List.mem_map]
  exact ⟨n - 1, by rw [List.mem_range]; omega, by omega⟩
def genS (texts : List Bs) (s : Bs) : Bool := match unpack s with
  | none => true
  | some p => decide (p.number ≤ texts.length) && (decide ((nth texts (p.number - 1)).length ≤ 8000) && (decide (p.part < count (nth texts (p.number - 1)).length) && decide (sector p.number (nth texts (p.number - 1)) p.part = s)))
def genL (image texts : List Bs) : Bool := image.all (genS texts)
theorem genL_hgen {S : List (Seg × Bool)} {J : Jst} {D M : Dsk} (c : Cln S J D) (t : Bs) (h : genL (conts M) (J.texts ++ [t]) = true) :
    ∀ i, i < M.s.length → ∀ p, unpack (nth (conts M) i) = some p → p.number = J.next → p.part < count t.length ∧ nth (conts M) i = sector J.next t p.part := by
  intro i hi p hp hn
  have h1 := List.all_eq_true.1 h _ (nth_mem (l := conts M) (i := i) (by rw [conts_len]; exact hi))
  rw [genS, hp] at h1
  simp only [Bool.and_eq_true, decide_eq_true_eq] at h1
  obtain ⟨_, _, h3, h4⟩ := h1
  have e : nth (J.texts ++ [t]) (p.number - 1) = t := by
    have hl : J.texts.length = S.length := by rw [Jst.texts, List.length_map, c.len]
    rw [hn, c.next, Nat.add_sub_cancel, nth_append_right (by omega), hl, Nat.sub_self]
    rfl
  rw [e] at h3 h4
  exact ⟨h3, by rw [← h4, hn]⟩
end Go.Proofs.YtjofjgflcogklaaGreatDoor

namespace Go.Proofs.YtjofjgflcogklaaGreatDoor
open Go Go.Abs Go.Sha Go.Jn
variable {h : Heap}
theorem take_succ_n {α : Type} [Inhabited α] (l : List α) {i : Nat} (hi : i < l.length) : l.take (i + 1) = l.take i ++ [nth l i] := by
  rw [List.take_succ_eq_append_getElem hi, nth_eq hi]
theorem same_upto {α : Type} [Inhabited α] [DecidableEq α] {xs ys : List α} {i : Nat} (hl : xs.length = ys.length) (hi : i < xs.length) (h : xs.take i = ys.take i) (he : nth xs i = nth ys i) : xs.take (i + 1) = ys.take (i + 1) := by
  rw [take_succ_n _ hi, take_succ_n _ (by omega), h, he]
theorem sameTexts_v (xs ys : List (List UInt8)) (t t' : Tok) (hl : xs.length ≤ 1000000) : PV F 20 [.sl (xs.map strV) t, .sl (ys.map strV) t'] = some (.bool (decide (xs = ys))) := by
  refine PV_wp (fn := c20) rfl ?_
  dsimp only [c20]
  by_cases hne : xs.length = ys.length
  · replace fx := Dum_eq
    (first | refine go ?_ | exact goC | skip); repeat' (first | refine gP ?_ | exact gPc | refine gN ?_ | exact gNc | (refine gI ?_ ?_ <;> intro hyp <;> first | refine goF ?_ | exact goFc | refine goT ?_ | exact goTc | skip))
    refine w_loop (fun m vs h3 => ∃ (i : Nat) (x1 x2 x3 x4 : AVal), m = xs.length - i ∧ i ≤ xs.length ∧ xs.take i = ys.take i ∧ vs = [.sl (xs.map strV) t, .sl (ys.map strV) t', x1, .int .i64 (i : Int), x2, x3, x4]) xs.length
      ⟨0, _, _, _, _, by omega, by omega, rfl, rfl⟩ ?_
    rintro m vs h3 ⟨i, x1, x2, x3, x4, rfl, hi, hS, rfl⟩
    by_cases hil : i < xs.length
    · by_cases he : nth xs i = nth ys i
      · replace fx := aI @strV_eq @he
        (first | refine go ?_ | exact goC | skip); repeat' (first | refine gP ?_ | exact gPc | refine gN ?_ | exact gNc | (refine gI ?_ ?_ <;> intro hyp <;> first | refine goF ?_ | exact goFc | refine goT ?_ | exact goTc | skip))
        exact lp_n ⟨_, by omega, i + 1, _, _, _, _, rfl, by omega, same_upto hne hil hS he, by push_cast; rfl⟩
      · replace fx := aI @strV_eq @he
        (first | refine go ?_ | exact goC | skip); repeat' (first | refine gP ?_ | exact gPc | refine gN ?_ | exact gNc | (refine gI ?_ ?_ <;> intro hyp <;> first | refine goF ?_ | exact goFc | refine goT ?_ | exact goTc | skip))
        have : ¬ xs = ys := fun e => he (by rw [e])
        simp [this]
    · have : xs = ys := by
        rw [List.take_of_length_le (by omega), List.take_of_length_le (by omega)] at hS
        exact hS
      replace fx := Dum_eq
      (first | refine go ?_ | exact goC | skip); repeat' (first | refine gP ?_ | exact gPc | refine gN ?_ | exact gNc | (refine gI ?_ ?_ <;> intro hyp <;> first | refine goF ?_ | exact goFc | refine goT ?_ | exact goTc | skip))
      simp [this]
  · have : ¬ xs = ys := fun e => hne (by rw [e])
    replace fx := Dum_eq
    (first | refine go ?_ | exact goC | skip); repeat' (first | refine gP ?_ | exact gPc | refine gN ?_ | exact gNc | (refine gI ?_ ?_ <;> intro hyp <;> first | refine goF ?_ | exact goFc | refine goT ?_ | exact goTc | skip))
    simp [this]
theorem sameInts_v (xs ys : List Nat) (t t' : Tok) (hl : xs.length ≤ 1000000) : PV F 23 [.sl (xs.map intN) t, .sl (ys.map intN) t'] = some (.bool (decide (xs = ys))) := by
  refine PV_wp (fn := c23) rfl ?_
  dsimp only [c23]
  by_cases hne : xs.length = ys.length
  · replace fx := Dum_eq
    (first | refine go ?_ | exact goC | skip); repeat' (first | refine gP ?_ | exact gPc | refine gN ?_ | exact gNc | (refine gI ?_ ?_ <;> intro hyp <;> first | refine goF ?_ | exact goFc | refine goT ?_ | exact goTc | skip))
    refine w_loop (fun m vs h3 => ∃ (i : Nat) (x1 x2 x3 x4 : AVal), m = xs.length - i ∧ i ≤ xs.length ∧ xs.take i = ys.take i ∧ vs = [.sl (xs.map intN) t, .sl (ys.map intN) t', x1, .int .i64 (i : Int), x2, x3, x4]) xs.length
      ⟨0, _, _, _, _, by omega, by omega, rfl, rfl⟩ ?_
    rintro m vs h3 ⟨i, x1, x2, x3, x4, rfl, hi, hS, rfl⟩
    by_cases hil : i < xs.length
    · by_cases he : nth xs i = nth ys i
      · replace fx := aI @intN_eq @he
        (first | refine go ?_ | exact goC | skip); repeat' (first | refine gP ?_ | exact gPc | refine gN ?_ | exact gNc | (refine gI ?_ ?_ <;> intro hyp <;> first | refine goF ?_ | exact goFc | refine goT ?_ | exact goTc | skip))
        exact lp_n ⟨_, by omega, i + 1, _, _, _, _, rfl, by omega, same_upto hne hil hS he, by push_cast; rfl⟩
      · replace fx := aI @intN_eq @he
        (first | refine go ?_ | exact goC | skip); repeat' (first | refine gP ?_ | exact gPc | refine gN ?_ | exact gNc | (refine gI ?_ ?_ <;> intro hyp <;> first | refine goF ?_ | exact goFc | refine goT ?_ | exact goTc | skip))
        have : ¬ xs = ys := fun e => he (by rw [e])
        simp [this]
    · have : xs = ys := by
        rw [List.take_of_length_le (by omega), List.take_of_length_le (by omega)] at hS
        exact hS
      replace fx := Dum_eq
      (first | refine go ?_ | exact goC | skip); repeat' (first | refine gP ?_ | exact gPc | refine gN ?_ | exact gNc | (refine gI ?_ ?_ <;> intro hyp <;> first | refine goF ?_ | exact goFc | refine goT ?_ | exact goTc | skip))
      simp [this]
  · have : ¬ xs = ys := fun e => hne (by rw [e])
    replace fx := Dum_eq
    (first | refine go ?_ | exact goC | skip); repeat' (first | refine gP ?_ | exact gPc | refine gN ?_ | exact gNc | (refine gI ?_ ?_ <;> intro hyp <;> first | refine goF ?_ | exact goFc | refine goT ?_ | exact goTc | skip))
    simp [this]
def sD0 : Dsk := freshD 4
def sJ0 : Jst := openJ (conts sD0)
def sA1 : (Int × Int) × (Jst × Dsk) := appendJ sJ0 sD0 [97]
def sA2 : (Int × Int) × (Jst × Dsk) := appendJ sA1.2.1 sA1.2.2 (List.replicate 50 120)
def sR : Int × Dsk := sA2.2.2.rot 1 70
def sK : Jst := openJ (conts sR.2)
def sB1 : (Int × Int) × (Jst × Dsk) := appendJ sK sR.2 [98]
def sB2 : (Int × Int) × (Jst × Dsk) := appendJ sB1.2.1 sB1.2.2 [99]
def sP : List Bs := pack 1 [97]
instance : DecidableEq Prt := fun a b => if h : a.number = b.number ∧ a.part = b.part ∧ a.left = b.left ∧ a.pay = b.pay then .isTrue (by cases a; cases b; simp at h; simp [h]) else .isFalse (by rintro rfl; simp at h)
theorem san : (decide (sJ0.next = 1 ∧ sJ0.fin = 0) && decide (sA1.1 = (1, 0) ∧ sA2.1 = (2, 0) ∧ sA2.2.1.fin = 3) && decide (sR.1 = 0 ∧ sB1.1 = (3, 0) ∧ sB2.1.2 = 20) &&
    decide (sB2.2.1.nums = [1, 3] ∧ sB2.2.1.texts = [[97], [98]] ∧ damaged sB2.2.1 = [2] ∧ sB2.2.1.bad = [1]) && decide (sP.length = 1 ∧ unpack (nth sP 0) = some ⟨1, 0, 1, [97]⟩) &&
    (!sD0.off && !sR.2.off && decide (sA2.2.2.s.length = 4) && decide (sR.2.s.length = 4))) = true := by kernel_rfl
end Go.Proofs.YtjofjgflcogklaaGreatDoor

namespace Go.Proofs.YtjofjgflcogklaaGreatDoor
open Go Go.Abs Go.Sha Go.Jn
variable {h : Heap}
theorem repeat_v : PV F 39 [.str [120], .int .i64 50] = some (.str (List.replicate 50 120)) := by
  have c : CV F 39 [.str [120], .int .i64 50] Heap.empty (fun v _ => v = .str (List.replicate 50 120)) := CV_hand (s := repeatS) rfl (r := .str (List.replicate 50 120)) (h' := Heap.empty) (by rfl) rfl
  obtain ⟨r, h', g, rfl⟩ := c
  exact PV_of g rfl
theorem sameInts_p (xs ys : List Nat) (hl : xs.length ≤ 1000000) (u u' : Tok) (_ : Pt u) (_ : Pt u') : PV F 23 [.sl (xs.map intN) u, .sl (ys.map intN) u'] = some (.bool (decide (xs = ys))) := sameInts_v xs ys u u' hl
theorem sameTexts_p (xs ys : List Bs) (hl : xs.length ≤ 1000000) (u u' : Tok) (_ : Pt u) (_ : Pt u') : PV F 20 [.sl (xs.map strV) u, .sl (ys.map strV) u'] = some (.bool (decide (xs = ys))) := sameTexts_v xs ys u u' hl
theorem _root_.Go.Abs.Fr.past {S : Nat → Prop} {h h1 h2 : Heap} (f : Fr (fun _ => False) h h1) (g : Fr S h1 h2) (hS : ∀ i, S i → h.next ≤ i) : Fr (fun _ => False) h h2 :=
  ⟨Nat.le_trans f.1 g.1, fun j hj _ => by have := f.1; rw [g.2 j (by omega) (fun q => by have := hS j q; omega)]; exact f.2 j hj (fun q => q)⟩
theorem and_split {a b : Bool} (h : (a && b) = true) : a = true ∧ b = true := by cases a <;> cases b <;> simp_all
theorem not_true {a : Bool} (h : (!a) = true) : a = false := by cases a <;> simp_all
theorem pc_one {f : Nat} {h : Heap} {v : AVal} {xs ys : List AVal} {b : Bool} {K : AVal → Heap → Prop} (hv : Pu h v xs) (e : ∀ u u', Pt u → Pt u' → PV F f [.sl xs u, .sl ys u'] = some (.bool b)) (k : K (.bool b) h) :
    PC F f (sc (strip v) (some [.sl ys .none])) [v, .sl ys .none] h K := pc_two (w := .sl ys .none) hv (Pu.sl h ys .none) e k
theorem puI_of {h : Heap} {v : AVal} {l : List Nat} (c : ClV h v intN l) : Pu h v (l.map intN) := c.pu (fun _ => rfl) (fun _ => rfl) (fun _ => rfl)
theorem puS_of {h : Heap} {v : AVal} {l : List Bs} (c : ClV h v strV l) : Pu h v (l.map strV) := c.pu (fun _ => rfl) (fun _ => rfl) (fun _ => rfl)
theorem pack1_v : PV F 40 [.int .i64 1, .str [97]] = some (.tup [.sl (sP.map strV) .none, .int .i64 0]) := by
  rw [pack_v 1 [97] (by simp)]
  unfold packV
  rw [if_neg (by omega), if_neg (by simp)]
  rfl
theorem sP_64 : (nth sP 0).length ≤ 1000000 := by
  have h1 : 1 ≤ sP.length := by rw [sP, pack_len]; exact count_pos _ (by simp)
  rw [nth_eq (by omega)]
  simp [sP, pack, sector_len]
theorem sanity_c (h : Heap) : CV F 7 [] h (fun v h' => v = .bool true ∧ Fr (fun _ => False) h h') := by
  obtain ⟨S, q6⟩ := and_split san
  obtain ⟨S, q5⟩ := and_split S
  obtain ⟨S, q4⟩ := and_split S
  obtain ⟨S, q3⟩ := and_split S
  obtain ⟨q1, q2⟩ := and_split S
  obtain ⟨q6, s18⟩ := and_split q6
  obtain ⟨q6, s17⟩ := and_split q6
  obtain ⟨s15, s16⟩ := and_split q6
  have s15 := not_true s15
  have s16 := not_true s16
  have s17 := of_decide_eq_true s17
  have s18 := of_decide_eq_true s18
  obtain ⟨s1, s2⟩ := of_decide_eq_true q1
  obtain ⟨s3, s4, s5⟩ := of_decide_eq_true q2
  obtain ⟨s6, s7, s8⟩ := of_decide_eq_true q3
  obtain ⟨s9, s10, s11, s12⟩ := of_decide_eq_true q4
  obtain ⟨s13, s14⟩ := of_decide_eq_true q5
  clear S q1 q2 q3 q4 q5 q6
  refine CV_wp (fn := c7) rfl ?_
  dsimp only [c7]
  have pn : ∀ i o, binA .eql .ptr (.ptr i o) .nilptr = some (.bool false) := fun _ _ => rfl
  have d0 : freshD (Int.toNat 4) = sD0 := rfl
  have l0 : sD0.s.length = 4 := rfl
  obtain ⟨D0, hD0⟩ : ∃ D, D = sD0 := ⟨_, rfl⟩
  obtain ⟨J0, hJ0⟩ : ∃ J, J = sJ0 := ⟨_, rfl⟩
  obtain ⟨A1, hA1⟩ : ∃ A, A = sA1 := ⟨_, rfl⟩
  obtain ⟨A2, hA2⟩ : ∃ A, A = sA2 := ⟨_, rfl⟩
  obtain ⟨R, hR⟩ : ∃ A, A = sR := ⟨_, rfl⟩
  obtain ⟨K, hK⟩ : ∃ A, A = sK := ⟨_, rfl⟩
  obtain ⟨B1, hB1⟩ : ∃ A, A = sB1 := ⟨_, rfl⟩
  obtain ⟨B2, hB2⟩ : ∃ A, A = sB2 := ⟨_, rfl⟩
  obtain ⟨Pk, hPk⟩ : ∃ A, A = sP := ⟨_, rfl⟩
  have eJ0 : openJ (conts D0) = J0 := by rw [hD0, hJ0]; rfl
  have eA1 : appendJ J0 D0 [97] = A1 := by rw [hD0, hJ0, hA1]; rfl
  have eA2 : appendJ A1.2.1 A1.2.2 (List.replicate 50 120) = A2 := by rw [hA1, hA2]; rfl
  have eR : A2.2.2.rot 1 70 = R := by rw [hA2, hR]; rfl
  have eK : openJ (conts R.2) = K := by rw [hR, hK]; rfl
  have eB1 : appendJ K R.2 [98] = B1 := by rw [hK, hR, hB1]; rfl
  have eB2 : appendJ B1.2.1 B1.2.2 [99] = B2 := by rw [hB1, hB2]; rfl
  have ePk : pack 1 [97] = Pk := by rw [hPk]; rfl
  rw [← hD0] at d0 l0 s15
  rw [← hJ0] at s1 s2
  rw [← hA1] at s3
  rw [← hA2] at s4 s5 s17
  rw [← hR] at s6 s16 s18
  rw [← hB1] at s7
  rw [← hB2] at s8 s9 s10 s11 s12
  rw [← hPk] at s13 s14
  have hrep := repeat_v
  have hpk := pack1_v
  have h64 := sP_64
  have hc49 : count 49 = 2 := by rw [show (49 : Int) = ((49 : Nat) : Int) from rfl, count_nat 49 (by omega)]; rfl
  have hc := count_v 49
  rw [hc49] at hc
  replace hc : PV F 16 [.int .i64 49] = some (.int .i64 2) := hc
  have hxl : (List.replicate 50 (120 : UInt8)).length ≤ 100000 := by simp
  obtain ⟨X, hX⟩ : ∃ X, X = List.replicate 50 (120 : UInt8) := ⟨_, rfl⟩
  rw [← hX] at hrep hxl eA2
  rw [← hPk] at hpk h64
  clear hX hD0 hJ0 hA1 hA2 hR hK hB1 hB2 hPk
  replace fx := Dum_eq
  (first | refine go ?_ | exact goC | skip); repeat' (first | refine gP ?_ | exact gPc | refine gN ?_ | exact gNc | (refine gI ?_ ?_ <;> intro hyp <;> first | refine goF ?_ | exact goFc | refine goT ?_ | exact goTc | skip))
  refine CV_mono (new_c 4 h (by omega)) ?_
  rintro v h1 ⟨d, b, p, w, rfl, P1, f1, u1⟩
  rw [d0] at P1
  replace fx := @pn
  (first | refine go ?_ | exact goC | skip); repeat' (first | refine gP ?_ | exact gPc | refine gN ?_ | exact gNc | (refine gI ?_ ?_ <;> intro hyp <;> first | refine goF ?_ | exact goFc | refine goT ?_ | exact goTc | skip))
  refine CV_mono (open_c P1 s15) ?_
  rintro v h2 ⟨j, t1, t2, t3, rfl, J2, P2, f2, u2⟩
  rw [eJ0] at J2
  have ok2 := openJ_ok (conts D0)
  rw [conts_len, eJ0] at ok2
  have n1 := cv_rw (next_c J2)
  have r1 := cv_rw (room_c J2 P2 ok2.fin)
  rw [s1, show ((1 : Nat) : Int) = 1 from rfl] at n1
  rw [s2, l0, show ((4 : Nat) : Int) - ((0 : Nat) : Int) = 4 from rfl] at r1
  have ih1 := P1.lt
  have sep2 : ∀ i, JS j t1 t2 t3 i → ¬ PS d b p w i := fun i q q' => by have := u2 i q; have := ih1 i q'; omega
  replace fx := aI @pn (aI @n1 @r1)
  (first | refine go ?_ | exact goC | skip); repeat' (first | refine gP ?_ | exact gPc | refine gN ?_ | exact gNc | (refine gI ?_ ?_ <;> intro hyp <;> first | refine goF ?_ | exact goFc | refine goT ?_ | exact goTc | skip))
  refine CV_mono (appended_c J2 P2 sep2 ok2 _ (by simp)) ?_
  rintro v h3 ⟨rfl, P3, f3, t1', t3', J3, u3⟩
  rw [eA1] at P3 J3
  obtain ⟨ok3, sl3⟩ := appendJ_ok (t := [97]) ok2
  rw [eA1] at ok3 sl3
  rw [← sl3] at ok3
  rw [eA1, s3]
  have ih2 := P2.lt
  have sep3 : ∀ i, JS j t1' t2 t3' i → ¬ PS d b p w i := fun i q q' => by
    rcases u3 i q with e | e
    · exact sep2 i e q'
    · have := ih2 i q'; omega
  replace fx := @hrep
  (first | refine go ?_ | exact goC | skip); repeat' (first | refine gP ?_ | exact gPc | refine gN ?_ | exact gNc | (refine gI ?_ ?_ <;> intro hyp <;> first | refine goF ?_ | exact goFc | refine goT ?_ | exact goTc | skip))
  refine CV_mono (appended_c J3 P3 sep3 ok3 _ (by omega)) ?_
  rintro v h4 ⟨rfl, P4, f4, t1'', t3'', J4, u4⟩
  rw [eA2] at P4 J4
  obtain ⟨ok4, sl4⟩ := appendJ_ok (t := X) ok3
  rw [eA2] at ok4 sl4
  rw [← sl4] at ok4
  rw [eA2, s4]
  have r4 := cv_rw (room_c J4 P4 ok4.fin)
  rw [s5, s17, show ((4 : Nat) : Int) - ((3 : Nat) : Int) = 1 from rfl] at r4
  replace fx := @r4
  (first | refine go ?_ | exact goC | skip); repeat' (first | refine gP ?_ | exact gPc | refine gN ?_ | exact gNc | (refine gI ?_ ?_ <;> intro hyp <;> first | refine goF ?_ | exact goFc | refine goT ?_ | exact goTc | skip))
  refine CV_mono (rot_c P4 1 70) ?_
  rintro v h5 ⟨rfl, P5, f5⟩
  rw [eR] at P5
  rw [eR, s6]
  replace fx := Dum_eq
  (first | refine go ?_ | exact goC | skip); repeat' (first | refine gP ?_ | exact gPc | refine gN ?_ | exact gNc | (refine gI ?_ ?_ <;> intro hyp <;> first | refine goF ?_ | exact goFc | refine goT ?_ | exact goTc | skip))
  refine CV_mono (open_c P5 s16) ?_
  rintro v h6 ⟨j', y1, y2, y3, rfl, J6, P6, f6, u6⟩
  rw [eK] at J6
  have ok6 := openJ_ok (conts R.2)
  rw [conts_len, eK] at ok6
  have ih5 := P5.lt
  have sep6 : ∀ i, JS j' y1 y2 y3 i → ¬ PS d b p w i := fun i q q' => by have := u6 i q; have := ih5 i q'; omega
  replace fx := @pn
  (first | refine go ?_ | exact goC | skip); repeat' (first | refine gP ?_ | exact gPc | refine gN ?_ | exact gNc | (refine gI ?_ ?_ <;> intro hyp <;> first | refine goF ?_ | exact goFc | refine goT ?_ | exact goTc | skip))
  refine CV_mono (appended_c J6 P6 sep6 ok6 _ (by simp)) ?_
  rintro v h7 ⟨rfl, P7, f7, z1, z3, J7, u7⟩
  rw [eB1] at P7 J7
  obtain ⟨ok7, sl7⟩ := appendJ_ok (t := [98]) ok6
  rw [eB1] at ok7 sl7
  rw [← sl7] at ok7
  rw [eB1, s7]
  have ih6 := P6.lt
  have sep7 : ∀ i, JS j' z1 y2 z3 i → ¬ PS d b p w i := fun i q q' => by
    rcases u7 i q with e | e
    · exact sep6 i e q'
    · have := ih6 i q'; omega
  replace fx := Dum_eq
  (first | refine go ?_ | exact goC | skip); repeat' (first | refine gP ?_ | exact gPc | refine gN ?_ | exact gNc | (refine gI ?_ ?_ <;> intro hyp <;> first | refine goF ?_ | exact goFc | refine goT ?_ | exact goTc | skip))
  refine CV_mono (appended_c J7 P7 sep7 ok7 _ (by simp)) ?_
  rintro v h8 ⟨rfl, P8, f8, z1', z3', J8, u8⟩
  rw [eB2] at P8 J8
  obtain ⟨ok8, sl8⟩ := appendJ_ok (t := [99]) ok7
  rw [eB2] at ok8 sl8
  rw [eB2, s8]
  have hup := Unpack_v (nth Pk 0) h64
  rw [s14] at hup
  replace hup : PV F 41 [.str (nth Pk 0)] = some (.tup [.int .i64 1, .int .i64 0, .int .i64 1, .str [97], .bool true]) := hup
  have hP1 : Pk.length = 1 := s13
  have hP2 : (Pk.length : Int) = 1 := by rw [hP1]; rfl
  replace fx := aI @hpk (aI @hP2 (aI @strV_eq @hup))
  (first | refine go ?_ | exact goC | skip); repeat' (first | refine gP ?_ | exact gPc | refine gN ?_ | exact gNc | (refine gI ?_ ?_ <;> intro hyp <;> first | refine goF ?_ | exact goFc | refine goT ?_ | exact goTc | skip))
  have nl := ok8.nl
  have tl := ok8.tl
  have bl := ok8.bad
  have w1 := ok8.n1
  have w2 := ok8.n2
  have w3 := ok8.nums
  have w4 : B1.2.2.s.length ≤ 4096 := P7.ok.len
  refine CV_mono (numbers_c J8 (by omega)) ?_
  rintro v h9 ⟨c9, f9⟩
  refine GK_fr f9 ?_
  have J9 := J8.fr f9 (fun _ _ q => q)
  replace fx := Dum_eq
  (first | refine go ?_ | exact goC | skip); repeat' (first | refine gP ?_ | exact gPc | refine gN ?_ | exact gNc | (refine gI ?_ ?_ <;> intro hyp <;> first | refine goF ?_ | exact goFc | refine goT ?_ | exact goTc | skip))
  refine pc_one (ys := ([1, 3] : List Nat).map intN) (puI_of c9) (sameInts_p _ [1, 3] (by omega)) ?_
  rw [decide_eq_true s9]
  replace fx := Dum_eq
  (first | refine go ?_ | exact goC | skip); repeat' (first | refine gP ?_ | exact gPc | refine gN ?_ | exact gNc | (refine gI ?_ ?_ <;> intro hyp <;> first | refine goF ?_ | exact goFc | refine goT ?_ | exact goTc | skip))
  refine CV_mono (texts_c J9 (by omega)) ?_
  rintro v h10 ⟨c10, f10⟩
  refine GK_fr f10 ?_
  have J10 := J9.fr f10 (fun _ _ q => q)
  replace fx := Dum_eq
  (first | refine go ?_ | exact goC | skip); repeat' (first | refine gP ?_ | exact gPc | refine gN ?_ | exact gNc | (refine gI ?_ ?_ <;> intro hyp <;> first | refine goF ?_ | exact goFc | refine goT ?_ | exact goTc | skip))
  refine pc_one (ys := ([[97], [98]] : List Bs).map strV) (puS_of c10) (sameTexts_p _ [[97], [98]] (by omega)) ?_
  rw [decide_eq_true s10]
  replace fx := Dum_eq
  (first | refine go ?_ | exact goC | skip); repeat' (first | refine gP ?_ | exact gPc | refine gN ?_ | exact gNc | (refine gI ?_ ?_ <;> intro hyp <;> first | refine goF ?_ | exact goFc | refine goT ?_ | exact goTc | skip))
  refine CV_mono (damaged_c J10 (by omega) (by omega) (fun x hx => by have := w3 x hx; omega) w1) ?_
  rintro v h11 ⟨tk11, rfl, f11⟩
  refine GK_fr f11 ?_
  have J11 := J10.fr f11 (fun _ _ q => q)
  rw [s11]
  replace fx := Dum_eq
  (first | refine go ?_ | exact goC | skip); repeat' (first | refine gP ?_ | exact gPc | refine gN ?_ | exact gNc | (refine gI ?_ ?_ <;> intro hyp <;> first | refine goF ?_ | exact goFc | refine goT ?_ | exact goTc | skip))
  refine pc_one (xs := ([2] : List Nat).map intN) (ys := ([2] : List Nat).map intN) (Pu.sl _ _ _) (sameInts_p [2] [2] (by simp)) ?_
  rw [decide_eq_true rfl]
  replace fx := Dum_eq
  (first | refine go ?_ | exact goC | skip); repeat' (first | refine gP ?_ | exact gPc | refine gN ?_ | exact gNc | (refine gI ?_ ?_ <;> intro hyp <;> first | refine goF ?_ | exact goFc | refine goT ?_ | exact goTc | skip))
  refine CV_mono (bad_c J11 (by omega)) ?_
  rintro v h12 ⟨c12, f12⟩
  refine GK_fr f12 ?_
  replace fx := Dum_eq
  (first | refine go ?_ | exact goC | skip); repeat' (first | refine gP ?_ | exact gPc | refine gN ?_ | exact gNc | (refine gI ?_ ?_ <;> intro hyp <;> first | refine goF ?_ | exact goFc | refine goT ?_ | exact goTc | skip))
  refine pc_one (ys := ([1] : List Nat).map intN) (puI_of c12) (sameInts_p _ [1] (by omega)) ?_
  rw [decide_eq_true s12]
  replace fx := @hc
  (first | refine go ?_ | exact goC | skip); repeat' (first | refine gP ?_ | exact gPc | refine gN ?_ | exact gNc | (refine gI ?_ ?_ <;> intro hyp <;> first | refine goF ?_ | exact goFc | refine goT ?_ | exact goTc | skip))
  have F2 : Fr (fun _ => False) h h2 := f1.trans f2
  have v2 : ∀ i, JS j t1 t2 t3 i → h.next ≤ i := fun i q => Nat.le_trans f1.1 (u2 i q)
  have F3 : Fr (fun _ => False) h h3 := F2.past f3 (fun i q => q.elim (v2 i) (u1 i))
  have v3 : ∀ i, JS j t1' t2 t3' i → h.next ≤ i := fun i q => (u3 i q).elim (v2 i) (Nat.le_trans F2.1)
  have F4 : Fr (fun _ => False) h h4 := F3.past f4 (fun i q => q.elim (v3 i) (u1 i))
  have F5 : Fr (fun _ => False) h h5 := F4.past f5 u1
  have F6 : Fr (fun _ => False) h h6 := F5.trans f6
  have v6 : ∀ i, JS j' y1 y2 y3 i → h.next ≤ i := fun i q => Nat.le_trans F5.1 (u6 i q)
  have F7 : Fr (fun _ => False) h h7 := F6.past f7 (fun i q => q.elim (v6 i) (u1 i))
  have v7 : ∀ i, JS j' z1 y2 z3 i → h.next ≤ i := fun i q => (u7 i q).elim (v6 i) (Nat.le_trans F6.1)
  have F8 : Fr (fun _ => False) h h8 := F7.past f8 (fun i q => q.elim (v7 i) (u1 i))
  exact (((F8.trans f9).trans f10).trans f11).trans f12
end Go.Proofs.YtjofjgflcogklaaGreatDoor

namespace Go.Proofs.YtjofjgflcogklaaGreatDoor
open Go Go.Abs Go.Sha Go.Jn
theorem stpL (o : Stp) : o.val.cells.length = 6 := rfl
theorem stpT (o : Stp) : AVal.agg (List.take 6 o.val.cells) = o.val := rfl
theorem stpS (o : Stp) : setCells [.int .i64 0, .int .i64 0, .int .i64 0, .int .i64 0, .int .u8 0, .sl [] .nil] 0 o.val.cells = o.cells := rfl
theorem stpL' (o : Stp) : 6 ≤ o.cells.length := Nat.le_refl _
theorem stpT' (o : Stp) : AVal.agg (List.take 6 o.cells) = o.val := rfl
theorem stpH (o : Stp) : (List.take 6 o.cells) = o.cells := rfl
theorem toI_byte (b : UInt8) : toIntA .i64 (byteV b) = some (.int .i64 (b.toNat : Int)) := by
  have hb := b.toNat_lt
  have : IntKind.i64.wrap (b.toNat : Int) = (b.toNat : Int) := wrap_in64 (by omega) (by omega)
  simp only [byteV, toIntA, this]
theorem byte1 (b : UInt8) : 1 ≤ (byteV b).cells.length := by simp [byteV, AVal.cells]
theorem byteM (b : UInt8) : mk false (List.take 1 (byteV b).cells) = some (byteV b) := rfl
theorem Stp.strip {o : Stp} (h : o.ok) : Go.Abs.strip o.val = some o.val := by
  obtain ⟨k, i, b, s, f, pk, tk⟩ := o
  rcases h.tk with q | ⟨q, q2⟩
  · simp only at q; subst q; rfl
  · simp only at q q2; subst q; subst q2; rfl
theorem PJ_lt {h : Heap} {j d : Nat} {t1 t2 t3 : Abs.Tok} {J : Jst} (g : PJ h j d t1 t2 t3 J) : ∀ i, JS j t1 t2 t3 i → i < h.next := by
  rintro i (rfl | ⟨s, e⟩ | ⟨s, e⟩ | ⟨s, e⟩)
  · exact get_lt g.row
  · exact g.tk.g1.lt e
  · exact g.tk.g2.lt e
  · exact g.tk.g3.lt e
end Go.Proofs.YtjofjgflcogklaaGreatDoor

namespace Go.Proofs.YtjofjgflcogklaaGreatDoor
open Go Go.Abs Go.Sha Go.Jn
theorem all_take {α : Type} [Inhabited α] {f : α → Bool} {l : List α} {k : Nat} (hk : k < l.length) (h : (l.take k).all f = true) (e : f (nth l k) = true) : (l.take (k + 1)).all f = true := by
  rw [List.take_succ_eq_append_getElem hk, List.all_append, h, ← nth_eq hk]
  simp [e]
theorem all_stop {α : Type} [Inhabited α] {f : α → Bool} {l : List α} {k : Nat} (hk : k < l.length) (e : f (nth l k) = false) : l.all f = false := by
  rw [Bool.eq_false_iff]
  intro h
  have := List.all_eq_true.1 h _ (nth_mem hk)
  rw [e] at this; simp at this
theorem genuine_v (img tx : List Bs) (hi : img.length ≤ 1000000) (ht : tx.length ≤ 1000000) (hb : ∀ t ∈ tx, t.length ≤ 100000) (u u' : Tok) (hu : Pt u) (hu' : Pt u') :
    PV F 18 [.sl (img.map strV) u, .sl (tx.map strV) u'] = some (.bool (genL img tx)) := by
  refine PV_wp (fn := c18) rfl ?_
  dsimp only [c18]
  replace fx := Dum_eq
  (first | refine go ?_ | exact goC | skip); repeat' (first | refine gP ?_ | exact gPc | refine gN ?_ | exact gNc | (refine gI ?_ ?_ <;> intro hyp <;> first | refine goF ?_ | exact goFc | refine goT ?_ | exact goTc | skip))
  refine w_loop (fun m vs h => ∃ (k : Nat) (x1 x2 x3 x4 x5 x6 x7 x8 : AVal), m = img.length - k ∧ k ≤ img.length ∧ (img.take k).all (genS tx) = true ∧ vs = [.sl (img.map strV) u, .sl (tx.map strV) u', .bool false, x1, x2, x3, x4, .sl (img.map strV) u, .int .i64 (img.length : Int), .int .i64 (k : Int), x5, x6, x7, x8]) img.length
    ⟨0, _, _, _, _, _, _, _, _, by omega, by omega, rfl, rfl⟩ ?_
  rintro m vs h ⟨k, x1, x2, x3, x4, x5, x6, x7, x8, rfl, hk, hA, rfl⟩
  by_cases hkl : k < img.length
  · have r1 := runpack_v (nth img k)
    cases hq : unpack (nth img k) with
    | none =>
      have gs : genS tx (nth img k) = true := by rw [genS, hq]
      rw [hq, partV_none] at r1
      replace fx := aI @r1 @strV_eq
      (first | refine go ?_ | exact goC | skip); repeat' (first | refine gP ?_ | exact gPc | refine gN ?_ | exact gNc | (refine gI ?_ ?_ <;> intro hyp <;> first | refine goF ?_ | exact goFc | refine goT ?_ | exact goTc | skip))
      exact lp_n ⟨_, by omega, k + 1, _, _, _, _, _, _, _, _, rfl, by omega, all_take hkl hA gs, by push_cast; rfl⟩
    | some p =>
      rw [hq, partV_some] at r1
      obtain ⟨u1, u2, u3, u4, u5⟩ := unpack_left hq
      by_cases h1 : tx.length < p.number
      · have gs : genS tx (nth img k) = false := by
          rw [genS, hq]
          simp only [decide_eq_false (show ¬ p.number ≤ tx.length by omega), Bool.false_and]
        replace fx := aI @r1 @strV_eq
        (first | refine go ?_ | exact goC | skip); repeat' (first | refine gP ?_ | exact gPc | refine gN ?_ | exact gNc | (refine gI ?_ ?_ <;> intro hyp <;> first | refine goF ?_ | exact goFc | refine goT ?_ | exact goTc | skip))
        rw [genL, all_stop hkl gs]
      · obtain ⟨t, ht0⟩ : ∃ t, t = nth tx (p.number - 1) := ⟨_, rfl⟩
        have tl : t.length ≤ 100000 := hb t (by rw [ht0]; exact nth_mem (by omega))
        have hno : ((p.number : Int) - 1).toNat = p.number - 1 := by omega
        have r2 := rpack_v (p.number : Int) t tl
        by_cases h2 : 8000 < t.length
        · have gs : genS tx (nth img k) = false := by
            rw [genS, hq]
            simp only [ht0.symm, decide_eq_false (show ¬ t.length ≤ 8000 by omega), Bool.false_and, Bool.and_false]
          rw [packV, if_neg (by omega), if_pos h2] at r2
          replace fx := aI @r1 (aI @strV_eq (aI @hno (aI @ht0.symm @r2)))
          (first | refine go ?_ | exact goC | skip); repeat' (first | refine gP ?_ | exact gPc | refine gN ?_ | exact gNc | (refine gI ?_ ?_ <;> intro hyp <;> first | refine goF ?_ | exact goFc | refine goT ?_ | exact goTc | skip))
          rw [genL, all_stop hkl gs]
        · rw [packV, if_neg (by omega), if_neg h2, Int.toNat_natCast] at r2
          have pl := pack_len p.number t
          have cl := count_le t.length
          by_cases h3 : p.part < count t.length
          · have hsec := nth_pack p.number t h3
            by_cases h4 : sector p.number t p.part = nth img k
            · have gs : genS tx (nth img k) = true := by
                rw [genS, hq]
                simp only [ht0.symm, h4, decide_true, decide_eq_true (show p.number ≤ tx.length by omega), decide_eq_true (show t.length ≤ 8000 by omega), decide_eq_true h3, Bool.and_self]
              replace fx := aI @r1 (aI @strV_eq (aI @hno (aI @ht0.symm (aI @r2 (aI @hsec @h4)))))
              (first | refine go ?_ | exact goC | skip); repeat' (first | refine gP ?_ | exact gPc | refine gN ?_ | exact gNc | (refine gI ?_ ?_ <;> intro hyp <;> first | refine goF ?_ | exact goFc | refine goT ?_ | exact goTc | skip))
              exact lp_n ⟨_, by omega, k + 1, _, _, _, _, _, _, _, _, rfl, by omega, all_take hkl hA gs, by push_cast; rfl⟩
            · have gs : genS tx (nth img k) = false := by
                rw [genS, hq]
                simp only [ht0.symm, decide_eq_false h4, Bool.and_false]
              replace fx := aI @r1 (aI @strV_eq (aI @hno (aI @ht0.symm (aI @r2 (aI @hsec @h4)))))
              (first | refine go ?_ | exact goC | skip); repeat' (first | refine gP ?_ | exact gPc | refine gN ?_ | exact gNc | (refine gI ?_ ?_ <;> intro hyp <;> first | refine goF ?_ | exact goFc | refine goT ?_ | exact goTc | skip))
              rw [genL, all_stop hkl gs]
          · have gs : genS tx (nth img k) = false := by
              rw [genS, hq]
              simp only [ht0.symm, decide_eq_false h3, Bool.false_and, Bool.and_false]
            replace fx := aI @r1 (aI @strV_eq (aI @hno (aI @ht0.symm @r2)))
            (first | refine go ?_ | exact goC | skip); repeat' (first | refine gP ?_ | exact gPc | refine gN ?_ | exact gNc | (refine gI ?_ ?_ <;> intro hyp <;> first | refine goF ?_ | exact goFc | refine goT ?_ | exact goTc | skip))
            rw [genL, all_stop hkl gs]
  · rw [List.take_of_length_le (by omega)] at hA
    replace fx := Dum_eq
    (first | refine go ?_ | exact goC | skip); repeat' (first | refine gP ?_ | exact gPc | refine gN ?_ | exact gNc | (refine gI ?_ ?_ <;> intro hyp <;> first | refine goF ?_ | exact goFc | refine goT ?_ | exact goTc | skip))
    rw [genL, hA]
structure FiI (h0 h : Heap) (d b p w j : Nat) (t1 t2 t3 tT : Abs.Tok) (J : Jst) (E : Dsk) (S : List (Seg × Bool)) : Prop where
  pd : PD h d b p w E
  pj : PJ h j d t1 t2 t3 J
  c : Cln S J E
  ok : JOk J E.s.length
  gT : GrN h 9 1 J.texts tT
  sep : ∀ i, JS j t1 t2 t3 i → ¬ PS d b p w i
  sT : ∀ i s, tT = .own i s → ¬ JS j t1 t2 t3 i ∧ ¬ PS d b p w i
  fr : Fr (fun _ => False) h0 h
  uP : ∀ i, PS d b p w i → h0.next ≤ i
  uJ : ∀ i, JS j t1 t2 t3 i → h0.next ≤ i
  uT : ∀ i s, tT = .own i s → h0.next ≤ i
theorem FiI.step {h0 h h' : Heap} {d b p w j : Nat} {t1 t2 t3 tT : Abs.Tok} {J : Jst} {E : Dsk} {S : List (Seg × Bool)} (g : FiI h0 h d b p w j t1 t2 t3 tT J E S) (f : Fr (fun _ => False) h h') : FiI h0 h' d b p w j t1 t2 t3 tT J E S :=
  ⟨g.pd.fr f (fun _ _ q => q), g.pj.fr f (fun _ _ q => q), g.c, g.ok, g.gT.fr f (fun _ _ _ q => q), g.sep, g.sT, g.fr.trans f, g.uP, g.uJ, g.uT⟩
theorem FiI.next {h0 h h' : Heap} {d b p w j : Nat} {t1 t2 t3 tT t1' t3' : Abs.Tok} {J : Jst} {E : Dsk} {S : List (Seg × Bool)} (g : FiI h0 h d b p w j t1 t2 t3 tT J E S) {J' : Jst} {E' : Dsk} {S' : List (Seg × Bool)}
    (P : PD h' d b p w E') (Q : PJ h' j d t1' t2 t3' J') (f : Fr (fun i => JS j t1 t2 t3 i ∨ PS d b p w i) h h') (u : ∀ i, JS j t1' t2 t3' i → JS j t1 t2 t3 i ∨ h.next ≤ i) (inv : Cln S' J' E') (ok : JOk J' E'.s.length) (hT : J'.texts = J.texts) :
    FiI h0 h' d b p w j t1' t2 t3' tT J' E' S' := by
  have lt := g.pd.lt
  have n0 := g.fr.1
  refine ⟨P, Q, inv, ok, ?_, fun i q q' => ?_, fun i s e => ⟨fun q => ?_, (g.sT i s e).2⟩, g.fr.past f (fun i q => ?_), g.uP, fun i q => ?_, g.uT⟩
  · rw [hT]
    exact g.gT.fr f fun i s e q => q.elim (g.sT i s e).1 (g.sT i s e).2
  · rcases u i q with r | r
    · exact g.sep i r q'
    · have := lt i q'; omega
  · rcases u i q with r | r
    · exact (g.sT i s e).1 r
    · have := g.gT.lt e; omega
  · exact q.elim (g.uJ i) (g.uP i)
  · rcases u i q with r | r
    · exact g.uJ i r
    · omega
theorem filled_bad (n : Int) (hn : n < 1) (l : List Stp) (tk : Tok) (h : Heap) : CV F 15 [.int .i64 n, .sl (l.map Stp.val) tk] h (fun v h' => v = .tup [.nilptr, .sl [] .nil, .bool false] ∧ h' = h) := by
  refine CV_wp (fn := c15) rfl ?_
  dsimp only [c15]
  replace fx := Dum_eq
  (first | refine go ?_ | exact goC | skip); repeat' (first | refine gP ?_ | exact gPc | refine gN ?_ | exact gNc | (refine gI ?_ ?_ <;> intro hyp <;> first | refine goF ?_ | exact goFc | refine goT ?_ | exact goTc | skip))
  refine CV_mono (new_bad n _ (by omega)) ?_
  rintro v h1 ⟨rfl, rfl⟩
  replace fx := Dum_eq
  (first | refine go ?_ | exact goC | skip); repeat' (first | refine gP ?_ | exact gPc | refine gN ?_ | exact gNc | (refine gI ?_ ?_ <;> intro hyp <;> first | refine goF ?_ | exact goFc | refine goT ?_ | exact goTc | skip))
theorem filled_c (n : Int) (hn : 1 ≤ n ∧ n ≤ 4096) (l : List Stp) (tk : Tok) (hl : ∀ o ∈ l, o.ok) (hll : l.length ≤ 12) (h : Heap) : CV F 15 [.int .i64 n, .sl (l.map Stp.val) tk] h
    (fun v h' => ∃ d b p w j t1 t2 t3 tT J E S, v = .tup [.ptr d 0, .sl (J.texts.map strV) tT, .bool true] ∧ FiI h h' d b p w j t1 t2 t3 tT J E S ∧ E.s.length = n.toNat ∧ S.length ≤ 12) := by
  refine CV_wp (fn := c15) rfl ?_
  dsimp only [c15]
  have pn : ∀ i o, binA .eql .ptr (.ptr i o) .nilptr = some (.bool false) := fun _ _ => rfl
  replace fx := Dum_eq
  (first | refine go ?_ | exact goC | skip); repeat' (first | refine gP ?_ | exact gPc | refine gN ?_ | exact gNc | (refine gI ?_ ?_ <;> intro hyp <;> first | refine goF ?_ | exact goFc | refine goT ?_ | exact goTc | skip))
  refine CV_mono (new_c n _ hn) ?_
  rintro v h1 ⟨d, b, p, w, rfl, P1, f1, u1⟩
  replace fx := @pn
  (first | refine go ?_ | exact goC | skip); repeat' (first | refine gP ?_ | exact gPc | refine gN ?_ | exact gNc | (refine gI ?_ ?_ <;> intro hyp <;> first | refine goF ?_ | exact goFc | refine goT ?_ | exact goTc | skip))
  refine CV_mono (open_c P1 rfl) ?_
  rintro v h3 ⟨j, t1, t2, t3, rfl, J3, P3, f3, v3⟩
  have ok3 := openJ_ok (conts (freshD n.toNat))
  rw [(virgin_fresh n.toNat).opened] at J3
  rw [conts_len, (virgin_fresh n.toNat).opened] at ok3
  have lt1 := P1.lt
  have n1 := f1.1
  have I3 : FiI h h3 d b p w j t1 t2 t3 .nil ⟨[], [], 1, 0, false⟩ (freshD n.toNat) [] := ⟨P3, J3, Cln.fresh _, ok3, GrN.nil _ _ _, fun i q q' => by have := v3 i q; have := lt1 i q'; omega, by simp, f1.trans f3, u1, fun i q => by have := v3 i q; omega, by simp⟩
  have len3 : (freshD n.toNat).s.length = n.toNat := (virgin_fresh n.toNat).len
  generalize freshD n.toNat = E at I3 len3
  clear J3 P3 P1 ok3 v3 f3 lt1
  replace fx := @pn
  (first | refine go ?_ | exact goC | skip); repeat' (first | refine gP ?_ | exact gPc | refine gN ?_ | exact gNc | (refine gI ?_ ?_ <;> intro hyp <;> first | refine goF ?_ | exact goFc | refine goT ?_ | exact goTc | skip))
  refine w_loop (fun q vs h' => ∃ (k : Nat) (E : Dsk) (J : Jst) (S : List (Seg × Bool)) (t1 t3 tT : Abs.Tok) (x1 x2 x3 x4 x5 x6 : AVal), q = l.length - k ∧ k ≤ l.length ∧ vs = [.int .i64 n, .sl (l.map Stp.val) tk, .nilptr, .sl [] .nil, .bool false, .ptr d 0, .int .i64 0, .ptr j 0, .int .i64 0, .sl (J.texts.map strV) tT, x1, x2, x3, x4, .sl (l.map Stp.val) tk, .int .i64 (l.length : Int), .int .i64 (k : Int), x5, x6] ∧
      FiI h h' d b p w j t1 t2 t3 tT J E S ∧ E.s.length = n.toNat ∧ S.length ≤ k) l.length
    ⟨0, _, _, _, _, _, _, _, _, _, _, _, _, rfl, by omega, rfl, I3, len3, by simp⟩ ?_
  clear I3 len3
  rintro q vs h4 ⟨k, E, J, S, t1, t3, tT, x1, x2, x3, x4, x5, x6, rfl, hk, rfl, I4, len4, hS4⟩
  by_cases hkl : k < l.length
  · have hok := hl _ (nth_mem hkl)
    generalize hno : nth l k = o at hok
    have st := stext_v o
    have ss := Stp.strip hok
    have otl := o.text_len
    replace fx := aI @hno (aI @stpL (aI @stpT (aI @stpS (aI @stpL' (aI @stpT' (aI @st @ss))))))
    (first | refine go ?_ | exact goC | skip); repeat' (first | refine gP ?_ | exact gPc | refine gN ?_ | exact gNc | (refine gI ?_ ?_ <;> intro hyp <;> first | refine goF ?_ | exact goFc | refine goT ?_ | exact goTc | skip))
    have fA : Fr (fun _ => False) h4 (h4.push (Obj.row true (typed 56) true o.cells)) := (Fr.refl _ _).push _
    have gx : (h4.push (Obj.row true (typed 56) true o.cells)).get h4.next = some (Obj.row true (typed 56) true o.cells) := get_push_eq rfl
    have I5 := I4.step fA
    have nx : ∀ i, JS j t1 t2 t3 i ∨ PS d b p w i → i ≠ h4.next := fun i q e => by
      rcases q with q | q
      · have := PJ_lt I4.pj i q; omega
      · have := I4.pd.lt i q; omega
    generalize (h4.push (Obj.row true (typed 56) true o.cells)) = h5 at fA gx I5 ⊢
    refine CV_mono (appended_c I5.pj I5.pd I5.sep I5.ok o.text (by omega)) ?_
    rintro v h6 ⟨rfl, P6, f6, t1', t3', J6, u6⟩
    obtain ⟨ok6, sl6⟩ := appendJ_ok (t := o.text) I5.ok
    obtain ⟨⟨⟨N5, C5⟩, ⟨J', E'⟩⟩, hA⟩ : ∃ A, A = appendJ J E o.text := ⟨_, rfl⟩
    rw [← hA] at P6 J6 ok6 sl6 ⊢
    dsimp only at P6 J6 ok6 sl6 ⊢
    rw [← sl6] at ok6
    obtain ⟨⟨S', inv6, hS'⟩, sl6', hcase⟩ := I5.c.step o.text C5 J' E' N5 hA.symm
    have gx6 := f6.get gx (fun q => nx _ q rfl)
    rcases hcase with ⟨rfl, hr⟩ | ⟨hC, hr⟩
    · have tl := I5.ok.tl
      have w2 := I5.ok.n2
      have w4 := I5.pd.ok.len
      have lt := I5.pd.lt
      have n0 := I5.fr.1
      have lbT : ∀ H, litA 0 9 1 1 false [.str []] (some [.str o.text]) H = some (.sl [strV o.text] .none, H) := fun H => lit_none rfl rfl rfl rfl
      have a2 : GrN h6 9 1 J.texts tT := I5.gT.fr f6 fun i s e q => q.elim (I5.sT i s e).1 (I5.sT i s e).2
      obtain ⟨h8, e8, n8, k8, o8⟩ := append_N (bytes := 16) (ag := false) (f := strV) (y := .sl ([o.text].map strV) .none) (ys := [o.text]) str_len (fun _ => rfl) (fun _ => rfl) lenA_sl (elems_sl str_len) a2 (by simp; omega) (by omega) (by omega) (by omega) (by simp)
      simp only [List.map_cons, List.map_nil] at e8
      replace fx := aI @stpL' (aI @stpT' (aI @st (aI @ss (aI @lbT (aI @e8 @gx6)))))
      (first | refine go ?_ | exact goC | skip); repeat' (first | refine gP ?_ | exact gPc | refine gN ?_ | exact gNc | (refine gI ?_ ?_ <;> intro hyp <;> first | refine goF ?_ | exact goFc | refine goT ?_ | exact goTc | skip))
      have F8 : Fr (fun i => ∃ s, tT = .own i s) h6 h8 := ⟨by omega, fun i hi hs => o8 i hi (fun i' s e r => hs ⟨s, by rw [r]; exact e⟩)⟩
      have hT : J'.texts = J.texts ++ [o.text] := by rw [Jst.texts, hr, List.map_append]; rfl
      have ltJ := PJ_lt J6
      have ltP := P6.lt
      have m6 := f6.1
      have I8 : FiI h h8 d b p w j t1' t2 t3' (.own h6.next 1) J' E' S' := by
        refine ⟨P6.fr F8 (fun i q ⟨s, e⟩ => (I5.sT i s e).2 q), J6.fr F8 (fun i q ⟨s, e⟩ => ?_), inv6, ok6, .inr ⟨_, rfl, k8⟩, fun i q q' => ?_, fun i s e => ?_, (I5.fr.past f6 (fun i q => q.elim (I5.uJ i) (I5.uP i))).past F8 (fun i ⟨s, e⟩ => I5.uT i s e), I5.uP, fun i q => ?_, fun i s e => ?_⟩
        · rcases u6 i q with r | r
          · exact (I5.sT i s e).1 r
          · have := I5.gT.lt e; omega
        · rcases u6 i q with r | r
          · exact I5.sep i r q'
          · have := lt i q'; omega
        · simp only [Tok.own.injEq] at e
          exact ⟨fun q => by have := ltJ i q; omega, fun q => by have := ltP i q; omega⟩
        · rcases u6 i q with r | r
          · exact I5.uJ i r
          · omega
        · simp only [Tok.own.injEq] at e
          omega
      exact lp_n ⟨_, by omega, k + 1, _, _, _, _, _, _, _, _, _, _, _, _, rfl, by omega, by rw [hT]; push_cast; rfl, I8, by omega, by omega⟩
    · have hT : J.texts = J'.texts := by rw [Jst.texts, Jst.texts, hr]
      have I6 : FiI h h6 d b p w j t1' t2 t3' tT J' E' S' := I5.next P6 J6 f6 u6 inv6 ok6 hT.symm
      rw [hT]
      rcases hC with rfl | rfl
      all_goals
        replace fx := Dum_eq
        (first | refine go ?_ | exact goC | skip); repeat' (first | refine gP ?_ | exact gPc | refine gN ?_ | exact gNc | (refine gI ?_ ?_ <;> intro hyp <;> first | refine goF ?_ | exact goFc | refine goT ?_ | exact goTc | skip))
        exact lp_n ⟨_, by omega, k + 1, _, _, _, _, _, _, _, _, _, _, _, _, rfl, by omega, by push_cast; rfl, I6, by omega, by omega⟩
  · replace fx := Dum_eq
    (first | refine go ?_ | exact goC | skip); repeat' (first | refine gP ?_ | exact gPc | refine gN ?_ | exact gNc | (refine gI ?_ ?_ <;> intro hyp <;> first | refine goF ?_ | exact goFc | refine goT ?_ | exact goTc | skip))
    exact ⟨d, b, p, w, j, t1, t2, t3, tT, J, E, S, rfl, I4, len4, by omega⟩
end Go.Proofs.YtjofjgflcogklaaGreatDoor

namespace Go.Proofs.YtjofjgflcogklaaGreatDoor
open Go Go.Abs Go.Sha Go.Jn
theorem mount_nx (D : Dsk) (pk : List Int) : ∀ x ∈ (D.mount pk).s, x.next = none := by
  intro x hx
  obtain ⟨i, hi, rfl⟩ := List.mem_iff_getElem.1 hx
  have hs : (D.mount pk).s = mountS (pickF pk) D.s 0 := rfl
  have hi' : i < D.s.length := by rw [hs, mountS_len] at hi; exact hi
  rw [← nth_eq hi, hs]
  obtain ⟨q, hq⟩ := mountS_ex (pickF pk) D.s 0 i hi'
  rw [hq]
  cases hn : (nth D.s i).next with
  | none => rw [if_neg (by simp)]; exact hn
  | some v => rw [if_pos (by simp)]; simp only [settle, hn]
theorem image_mount (D : Dsk) (pk : List Int) : imageL (D.mount pk) = conts (D.mount pk) := by
  unfold imageL conts
  refine List.map_congr_left fun x hx => ?_
  rw [mount_nx D pk x hx]; rfl
theorem mount_len (D : Dsk) (pk : List Int) : (D.mount pk).s.length = D.s.length := mountS_len _ _ _
theorem cl_image {h : Heap} {id : Nat} {D : Dsk} (g : h.get id = some (.row true 1 false (flat ((imageL D).map strV)))) : ClV h (.ref id 0 D.s.length 1) strV (imageL D) :=
  .inr ⟨id, by rw [show (imageL D).length = D.s.length by simp [imageL]], g⟩
theorem survives_c {n : Int} (hn : -9223372036854775808 ≤ n ∧ n < 9223372036854775808) {l : List Stp} {tk : Tok} {o : Stp} {tr : UInt8} {pk : List Int} {tkp : Tok} (hl : ∀ o ∈ l, o.ok) (hll : l.length ≤ 9223372036854775807) (ho : o.ok) (hpl : pk.length ≤ 9223372036854775807) :
    CV F 5 [.int .i64 n, .sl (l.map Stp.val) tk, o.val, byteV tr, .sl (pk.map (.int .i64)) tkp] Heap.empty (fun v _ => v = .bool true) := by
  refine CV_wp (fn := c5) rfl ?_
  dsimp only [c5]
  have c6 := stpL o
  have one6 : o.val.cells.all AVal.one = true := rfl
  have vc6 : o.val.cells = o.cells := rfl
  by_cases h0 : 200 < n ∨ 12 < l.length ∨ 200 < pk.length
  · by_cases h1 : 200 < n
    · replace fx := aI @c6 @one6
      (first | refine go ?_ | exact goC | skip); repeat' (first | refine gP ?_ | exact gPc | refine gN ?_ | exact gNc | (refine gI ?_ ?_ <;> intro hyp <;> first | refine goF ?_ | exact goFc | refine goT ?_ | exact goTc | skip))
      refine CV_mono (sanity_c _) ?_
      rintro v h1 ⟨rfl, _⟩
      replace fx := Dum_eq
      (first | refine go ?_ | exact goC | skip); repeat' (first | refine gP ?_ | exact gPc | refine gN ?_ | exact gNc | (refine gI ?_ ?_ <;> intro hyp <;> first | refine goF ?_ | exact goFc | refine goT ?_ | exact goTc | skip))
    · by_cases h2 : 12 < l.length
      · replace fx := aI @c6 @one6
        (first | refine go ?_ | exact goC | skip); repeat' (first | refine gP ?_ | exact gPc | refine gN ?_ | exact gNc | (refine gI ?_ ?_ <;> intro hyp <;> first | refine goF ?_ | exact goFc | refine goT ?_ | exact goTc | skip))
        refine CV_mono (sanity_c _) ?_
        rintro v h1 ⟨rfl, _⟩
        replace fx := Dum_eq
        (first | refine go ?_ | exact goC | skip); repeat' (first | refine gP ?_ | exact gPc | refine gN ?_ | exact gNc | (refine gI ?_ ?_ <;> intro hyp <;> first | refine goF ?_ | exact goFc | refine goT ?_ | exact goTc | skip))
      · have h3 : 200 < pk.length := by omega
        replace fx := aI @c6 @one6
        (first | refine go ?_ | exact goC | skip); repeat' (first | refine gP ?_ | exact gPc | refine gN ?_ | exact gNc | (refine gI ?_ ?_ <;> intro hyp <;> first | refine goF ?_ | exact goFc | refine goT ?_ | exact goTc | skip))
        refine CV_mono (sanity_c _) ?_
        rintro v h1 ⟨rfl, _⟩
        replace fx := Dum_eq
        (first | refine go ?_ | exact goC | skip); repeat' (first | refine gP ?_ | exact gPc | refine gN ?_ | exact gNc | (refine gI ?_ ?_ <;> intro hyp <;> first | refine goF ?_ | exact goFc | refine goT ?_ | exact goTc | skip))
  · have h200 : ¬ 200 < n := by omega
    have h12 : ¬ 12 < l.length := by omega
    have hp200 : ¬ 200 < pk.length := by omega
    by_cases hn1 : n < 1
    · replace fx := aI @c6 @one6
      (first | refine go ?_ | exact goC | skip); repeat' (first | refine gP ?_ | exact gPc | refine gN ?_ | exact gNc | (refine gI ?_ ?_ <;> intro hyp <;> first | refine goF ?_ | exact goFc | refine goT ?_ | exact goTc | skip))
      refine CV_mono (filled_bad n hn1 l tk _) ?_
      rintro v h1 ⟨rfl, rfl⟩
      replace fx := Dum_eq
      (first | refine go ?_ | exact goC | skip); repeat' (first | refine gP ?_ | exact gPc | refine gN ?_ | exact gNc | (refine gI ?_ ?_ <;> intro hyp <;> first | refine goF ?_ | exact goFc | refine goT ?_ | exact goTc | skip))
      refine CV_mono (sanity_c _) ?_
      rintro v h1 ⟨rfl, _⟩
      replace fx := Dum_eq
      (first | refine go ?_ | exact goC | skip); repeat' (first | refine gP ?_ | exact gPc | refine gN ?_ | exact gNc | (refine gI ?_ ?_ <;> intro hyp <;> first | refine goF ?_ | exact goFc | refine goT ?_ | exact goTc | skip))
      exact hn1
    · replace fx := aI @c6 @one6
      (first | refine go ?_ | exact goC | skip); repeat' (first | refine gP ?_ | exact gPc | refine gN ?_ | exact gNc | (refine gI ?_ ?_ <;> intro hyp <;> first | refine goF ?_ | exact goFc | refine goT ?_ | exact goTc | skip))
      refine CV_mono (filled_c n (by omega) l tk hl (by omega) _) ?_
      rintro v h1 ⟨d, b, p, w, j0, t1, t2, t3, tT, J0, E, S, rfl, I1, len1, hS⟩
      rw [vc6] at I1
      generalize hh0 : Heap.empty.push (Obj.row true 0 true o.cells) = h0 at I1
      have gx0 : h0.get 0 = some (.row true 0 true o.cells) := by rw [← hh0]; exact get_push_eq rfl
      have nx0 : h0.next = 1 := by rw [← hh0]; rfl
      have gx1 := I1.fr.get gx0 (fun q => q)
      have fn1 := I1.fr.1
      have lt1 := I1.pd.lt
      have st := stext_v o
      have ss := Stp.strip ho
      have otl := o.text_len
      have htr := tr.toNat_lt
      replace fx := Dum_eq
      (first | refine go ?_ | exact goC | skip); repeat' (first | refine gP ?_ | exact gPc | refine gN ?_ | exact gNc | (refine gI ?_ ?_ <;> intro hyp <;> first | refine goF ?_ | exact goFc | refine goT ?_ | exact goTc | skip))
      refine CV_mono (open_c I1.pd I1.c.g.off) ?_
      rintro v h2 ⟨j, y1, y2, y3, rfl, Q2, P2, f2, v2⟩
      have C2 := I1.c.opened
      have hT : (openJ (conts E)).texts = J0.texts := by rw [Jst.texts, I1.c.g.found]; rfl
      have ok2 := openJ_ok (conts E)
      rw [conts_len] at ok2
      generalize openJ (conts E) = J at Q2 C2 hT ok2
      have gT2 := I1.gT.fr f2 (fun _ _ _ q => q)
      have gx2 := f2.get gx1 (fun q => q)
      have sepT : ∀ i s, tT = .own i s → ¬ PS d b p w i := fun i s e => (I1.sT i s e).2
      have uP : ∀ i, PS d b p w i → 1 ≤ i := fun i q => by have := I1.uP i q; omega
      have uT : ∀ i s, tT = .own i s → i < h1.next := fun i s e => I1.gT.lt e
      rw [← hT] at gT2 ⊢
      clear I1
      have tl := ok2.tl
      have nl := ok2.nl
      have w2 := ok2.n2
      have w3 := ok2.nums
      have w4 := P2.ok.len
      have hS2 := C2.next
      have htx : ∀ t ∈ J.texts, t.length ≤ 8000 := by
        intro t ht
        rw [Jst.texts, C2.g.recs, List.map_map, List.mem_map] at ht
        obtain ⟨g, hg, rfl⟩ := ht
        exact (C2.g.ok g (List.mem_filter.1 hg).1).t
      have sep2 : ∀ i, JS j y1 y2 y3 i → ¬ PS d b p w i := fun i q q' => by have := v2 i q; have := lt1 i q'; omega
      have uJ : ∀ i, JS j y1 y2 y3 i → h1.next ≤ i := v2
      replace fx := Dum_eq
      (first | refine go ?_ | exact goC | skip); repeat' (first | refine gP ?_ | exact gPc | refine gN ?_ | exact gNc | (refine gI ?_ ?_ <;> intro hyp <;> first | refine goF ?_ | exact goFc | refine goT ?_ | exact goTc | skip))
      refine CV_mono (texts_c Q2 (by omega)) ?_
      rintro v h3 ⟨c3, f3⟩
      refine GK_fr f3 ?_
      replace fx := Dum_eq
      (first | refine go ?_ | exact goC | skip); repeat' (first | refine gP ?_ | exact gPc | refine gN ?_ | exact gNc | (refine gI ?_ ?_ <;> intro hyp <;> first | refine goF ?_ | exact goFc | refine goT ?_ | exact goTc | skip))
      refine pc_two (ys := J.texts.map strV) (puS_of c3) (Pu.sl _ _ _) (sameTexts_p _ _ (by omega)) ?_
      rw [decide_eq_true rfl]
      have Q3 := Q2.fr f3 (fun _ _ q => q)
      replace fx := Dum_eq
      (first | refine go ?_ | exact goC | skip); repeat' (first | refine gP ?_ | exact gPc | refine gN ?_ | exact gNc | (refine gI ?_ ?_ <;> intro hyp <;> first | refine goF ?_ | exact goFc | refine goT ?_ | exact goTc | skip))
      refine CV_mono (damaged_c Q3 (by omega) (by omega) (fun x hx => by have := w3 x hx; omega) ok2.n1) ?_
      rintro v h4 ⟨tk4, rfl, f4⟩
      refine GK_fr f4 ?_
      rw [C2.whole]
      have f14 := f3.trans f4
      have Q4 := Q2.fr f14 (fun _ _ q => q)
      have P4 := P2.fr f14 (fun _ _ q => q)
      have gT4 := gT2.fr f14 (fun _ _ _ q => q)
      have gx4 := f14.get gx2 (fun q => q)
      replace fx := @toI_byte
      (first | refine go ?_ | exact goC | skip); repeat' (first | refine gP ?_ | exact gPc | refine gN ?_ | exact gNc | (refine gI ?_ ?_ <;> intro hyp <;> first | refine goF ?_ | exact goFc | refine goT ?_ | exact goTc | skip))
      refine CV_mono (trip_c P4 (by omega)) ?_
      rintro v h5 ⟨P5, f5⟩
      have Q5 := Q4.fr f5 sep2
      have gT5 := gT4.fr f5 (fun i s e q => sepT i s e q)
      have gx5 := f5.get gx4 (fun q => by have := uP 0 q; omega)
      replace fx := aI @gx5 (aI @stpL' (aI @stpT' (aI @st @ss)))
      (first | refine go ?_ | exact goC | skip); repeat' (first | refine gP ?_ | exact gPc | refine gN ?_ | exact gNc | (refine gI ?_ ?_ <;> intro hyp <;> first | refine goF ?_ | exact goFc | refine goT ?_ | exact goTc | skip))
      refine CV_mono (appended_c Q5 P5 sep2 ok2 o.text (by omega)) ?_
      rintro v h6 ⟨rfl, P6, f6, t1', t3', Q6, u6⟩
      have gT6 := gT5.fr f6 (fun i s e q => q.elim (fun q => by have := uJ i q; have := uT i s e; omega) (sepT i s e))
      have gx6 := f6.get gx5 (fun q => q.elim (fun q => by have := uJ 0 q; omega) (fun q => by have := uP 0 q; omega))
      clear Q6 u6 Q5 Q4 Q3 Q2 P5 P4 P2
      replace fx := Dum_eq
      (first | refine go ?_ | exact goC | skip); repeat' (first | refine gP ?_ | exact gPc | refine gN ?_ | exact gNc | (refine gI ?_ ?_ <;> intro hyp <;> first | refine goF ?_ | exact goFc | refine goT ?_ | exact goTc | skip))
      refine CV_mono (mount_c P6 pk tkp hpl) ?_
      rintro v h7 ⟨P7, f7⟩
      have gT7 := gT6.fr f7 (fun i s e q => sepT i s e q)
      have gx7 := f7.get gx6 (fun q => by have := uP 0 q; omega)
      have sv := survive C2.g C2.w (by omega) (tr.toNat : Int) o.text pk
      have gl := genL_hgen (M := (appendJ J (E.trip (tr.toNat : Int)) o.text).2.2.mount pk) C2 o.text
      have ml : ((appendJ J (E.trip (tr.toNat : Int)) o.text).2.2.mount pk).s.length = E.s.length := by
        rw [mount_len, (appendJ_ok (t := o.text) (D := E.trip (tr.toNat : Int)) ok2).2]; rfl
      have im := image_mount (appendJ J (E.trip (tr.toNat : Int)) o.text).2.2 pk
      have mo : ((appendJ J (E.trip (tr.toNat : Int)) o.text).2.2.mount pk).off = false := rfl
      rw [ml] at gl
      generalize hM : (appendJ J (E.trip (tr.toNat : Int)) o.text).2.2.mount pk = M at P7 sv gl ml im mo
      generalize hC : (appendJ J (E.trip (tr.toNat : Int)) o.text).1.2 = C at sv ⊢
      clear P6
      replace fx := aI @evx_elit (aI @gx7 (aI @stpL' @stpT'))
      (first | refine go ?_ | exact goC | skip); repeat' (first | refine gP ?_ | exact gPc | refine gN ?_ | exact gNc | (refine gI ?_ ?_ <;> intro hyp <;> first | refine goF ?_ | exact goFc | refine goT ?_ | exact goTc | skip))
      refine CV_mono (image_c P7) ?_
      rintro vi h8 ⟨id, hvi, hid, g8, f8⟩
      have c8 : ClV h8 vi strV (imageL M) := by rw [hvi]; exact cl_image g8
      clear hvi g8
      refine GK_fr f8 ?_
      have P8 := P7.fr f8 (fun _ _ q => q)
      have gT8 := gT7.fr f8 (fun _ _ _ q => q)
      have gx8 := f8.get gx7 (fun q => q)
      have w8 := P7.ok.len
      have lb : ∀ (x : Bs) H, litA 0 9 1 1 false [.str []] (some [.str x]) H = some (.sl (([x] : List Bs).map strV) .none, H) := fun x H => lit_none rfl rfl rfl rfl
      have GF8 : GrF (fun _ => False) h8 h8 9 1 ([] : List Bs) .full := ⟨.inl ⟨rfl, .inr rfl⟩, Fr.refl _ _, by simp⟩
      replace fx := @evx_elit
      (first | refine go ?_ | exact goC | skip); repeat' (first | refine gP ?_ | exact gPc | refine gN ?_ | exact gNc | (refine gI ?_ ?_ <;> intro hyp <;> first | refine goF ?_ | exact goFc | refine goT ?_ | exact goTc | skip))
      refine append_F (f := strV) [] J.texts str_len (fun _ => rfl) (fun _ => rfl) lenA_sl (elems_sl str_len) GF8 (by simp; omega) (by omega) (by omega) (by omega) ?_
      intro h9 a9 G9 n9 r9 k9
      rw [List.nil_append] at G9 ⊢
      have gx9 := r9 _ _ _ _ _ gx8
      replace fx := aI @gx9 (aI @stpL' (aI @stpT' (aI @st (aI @ss @lb))))
      (first | refine go ?_ | exact goC | skip); repeat' (first | refine gP ?_ | exact gPc | refine gN ?_ | exact gNc | (refine gI ?_ ?_ <;> intro hyp <;> first | refine goF ?_ | exact goFc | refine goT ?_ | exact goTc | skip))
      refine append_F (f := strV) J.texts [o.text] str_len (fun _ => rfl) (fun _ => rfl) (lenA_sl (f := strV) (l := [o.text])) (elems_sl (f := strV) (l := [o.text]) str_len) G9 (by simp; omega) (by omega) (by omega) (by omega) ?_
      intro h10 a10 G10 n10 r10 k10
      have f10 := G10.fr
      have c10 := c8.fr (S := fun _ => False) f10
      have P10 := P8.fr f10 (fun _ _ q => q)
      have gT10 := gT8.fr f10 (fun _ _ _ q => q)
      have gx10 := f10.get gx8 (fun q => q)
      replace fx := Dum_eq
      (first | refine go ?_ | exact goC | skip); repeat' (first | refine gP ?_ | exact gPc | refine gN ?_ | exact gNc | (refine gI ?_ ?_ <;> intro hyp <;> first | refine goF ?_ | exact goFc | refine goT ?_ | exact goTc | skip))
      refine pc_two (ys := (J.texts ++ [o.text]).map strV) (puS_of c10) (Pu.sl _ _ _) (genuine_v _ _ (by rw [im, conts_len]; omega) (by simp; omega) (fun t ht => ?_)) ?_
      · rcases List.mem_append.1 ht with q | q
        · have := htx t q; omega
        · rw [List.mem_singleton.1 q]; omega
      rw [im]
      cases hg : genL (conts M) (J.texts ++ [o.text]) with
      | false =>
        replace fx := Dum_eq
        (first | refine go ?_ | exact goC | skip); repeat' (first | refine gP ?_ | exact gPc | refine gN ?_ | exact gNc | (refine gI ?_ ?_ <;> intro hyp <;> first | refine goF ?_ | exact goFc | refine goT ?_ | exact goTc | skip))
        refine CV_mono (sanity_c _) ?_
        rintro v h11 ⟨rfl, _⟩
        replace fx := Dum_eq
        (first | refine go ?_ | exact goC | skip); repeat' (first | refine gP ?_ | exact gPc | refine gN ?_ | exact gNc | (refine gI ?_ ?_ <;> intro hyp <;> first | refine goF ?_ | exact goFc | refine goT ?_ | exact goTc | skip))
      | true =>
        obtain ⟨_, hres⟩ := sv (gl hg)
        replace fx := Dum_eq
        (first | refine go ?_ | exact goC | skip); repeat' (first | refine gP ?_ | exact gPc | refine gN ?_ | exact gNc | (refine gI ?_ ?_ <;> intro hyp <;> first | refine goF ?_ | exact goFc | refine goT ?_ | exact goTc | skip))
        refine CV_mono (open_c P10 mo) ?_
        rintro v h11 ⟨jk, z1, z2, z3, rfl, Q11, P11, f11, v11⟩
        have ok11 := openJ_ok (conts M)
        rw [conts_len] at ok11
        have tl11 := ok11.tl
        have w11 := ok11.n2
        have pn : ∀ i o, binA .eql .ptr (.ptr i o) .nilptr = some (.bool false) := fun _ _ => rfl
        generalize openJ (conts M) = K at Q11 hres tl11 w11
        have gT11 := gT10.fr f11 (fun _ _ _ q => q)
        have gx11 := f11.get gx10 (fun q => q)
        replace fx := @pn
        (first | refine go ?_ | exact goC | skip); repeat' (first | refine gP ?_ | exact gPc | refine gN ?_ | exact gNc | (refine gI ?_ ?_ <;> intro hyp <;> first | refine goF ?_ | exact goFc | refine goT ?_ | exact goTc | skip))
        refine CV_mono (texts_c Q11 (by omega)) ?_
        rintro v h12 ⟨c12, f12⟩
        refine GK_fr f12 ?_
        have gT12 := gT11.fr f12 (fun _ _ _ q => q)
        have gx12 := f12.get gx11 (fun q => q)
        have GF12 : GrF (fun _ => False) h12 h12 9 1 ([] : List Bs) .full := ⟨.inl ⟨rfl, .inr rfl⟩, Fr.refl _ _, by simp⟩
        replace fx := @evx_elit
        (first | refine go ?_ | exact goC | skip); repeat' (first | refine gP ?_ | exact gPc | refine gN ?_ | exact gNc | (refine gI ?_ ?_ <;> intro hyp <;> first | refine goF ?_ | exact goFc | refine goT ?_ | exact goTc | skip))
        refine append_F (f := strV) [] J.texts str_len (fun _ => rfl) (fun _ => rfl) lenA_sl (elems_sl str_len) GF12 (by simp; omega) (by omega) (by omega) (by omega) ?_
        intro h13 a13 G13 n13 r13 k13
        rw [List.nil_append] at G13 ⊢
        have gx13 := r13 _ _ _ _ _ gx12
        replace fx := aI @gx13 (aI @stpL' (aI @stpT' (aI @st (aI @ss @lb))))
        (first | refine go ?_ | exact goC | skip); repeat' (first | refine gP ?_ | exact gPc | refine gN ?_ | exact gNc | (refine gI ?_ ?_ <;> intro hyp <;> first | refine goF ?_ | exact goFc | refine goT ?_ | exact goTc | skip))
        refine append_F (f := strV) J.texts [o.text] str_len (fun _ => rfl) (fun _ => rfl) (lenA_sl (f := strV) (l := [o.text])) (elems_sl (f := strV) (l := [o.text]) str_len) G13 (by simp; omega) (by omega) (by omega) (by omega) ?_
        intro h14 a14 G14 n14 r14 k14
        have c14 := c12.fr (S := fun _ => False) G14.fr
        replace fx := Dum_eq
        (first | refine go ?_ | exact goC | skip); repeat' (first | refine gP ?_ | exact gPc | refine gN ?_ | exact gNc | (refine gI ?_ ?_ <;> intro hyp <;> first | refine goF ?_ | exact goFc | refine goT ?_ | exact goTc | skip))
        refine CV_mono (sanity_c _) ?_
        rintro v h15 ⟨rfl, f15⟩
        have c15 := c14.fr (S := fun _ => False) f15
        replace fx := Dum_eq
        (first | refine go ?_ | exact goC | skip); repeat' (first | refine gP ?_ | exact gPc | refine gN ?_ | exact gNc | (refine gI ?_ ?_ <;> intro hyp <;> first | refine goF ?_ | exact goFc | refine goT ?_ | exact goTc | skip))
        refine pc_two (ys := (J.texts ++ [o.text]).map strV) (puS_of c15) (Pu.sl _ _ _) (sameTexts_p _ _ (by omega)) ?_
        have e1 : J.recs ++ [(J.next, o.text)] = K.recs → K.texts = J.texts ++ [o.text] := fun e => by
          rw [Jst.texts, ← e, List.map_append]; rfl
        have e2 : K.recs = J.recs → K.texts = J.texts := fun e => by rw [Jst.texts, e]; rfl
        rcases hres with hr | ⟨hC0, hr⟩
        · rw [decide_eq_true (e1 hr.symm)]
          replace fx := Dum_eq
          (first | refine go ?_ | exact goC | skip); repeat' (first | refine gP ?_ | exact gPc | refine gN ?_ | exact gNc | (refine gI ?_ ?_ <;> intro hyp <;> first | refine goF ?_ | exact goFc | refine goT ?_ | exact goTc | skip))
        · have hK := e2 hr
          have hne : ¬ K.texts = J.texts ++ [o.text] := fun e => by
            have := congrArg List.length e
            rw [hK] at this; simp at this
          rw [decide_eq_false hne]
          replace fx := Dum_eq
          (first | refine go ?_ | exact goC | skip); repeat' (first | refine gP ?_ | exact gPc | refine gN ?_ | exact gNc | (refine gI ?_ ?_ <;> intro hyp <;> first | refine goF ?_ | exact goFc | refine goT ?_ | exact goTc | skip))
          refine pc_two (ys := J.texts.map strV) (puS_of c15) (Pu.sl _ _ _) (sameTexts_p _ _ (by omega)) ?_
          rw [decide_eq_true hK]
          replace fx := Dum_eq
          (first | refine go ?_ | exact goC | skip); repeat' (first | refine gP ?_ | exact gPc | refine gN ?_ | exact gNc | (refine gI ?_ ?_ <;> intro hyp <;> first | refine goF ?_ | exact goFc | refine goT ?_ | exact goTc | skip))
end Go.Proofs.YtjofjgflcogklaaGreatDoor
