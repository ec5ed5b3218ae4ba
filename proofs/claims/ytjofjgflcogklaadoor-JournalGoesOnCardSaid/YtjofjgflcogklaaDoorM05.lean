/-
  Merged from DkBase DkRel DkRead DkSet JsP0 JsP1 JsP2 JsP3 JsQ0 JsQ1 JsQ2 JsQ3 DkRot DkPend DkImage JsJ: A model of a disk; how it lies in the heap, in the program's shape and in the reference's.
-/
import Derived.Test.YtjofjgflcogklaaDoorM04
set_option linter.unusedSimpArgs false
set_option linter.unusedVariables false
set_option linter.defProp false
set_option linter.constructorNameAsVariable false
/-
  A model of a disk; how it lies in the heap, in the program's shape and in the reference's.
-/
namespace Go.Proofs.YtjofjgflcogklaaDoor
open Go Go.Abs
def B64 : Type := { l : List UInt8 // l.length = 64 }
def zeroB : B64 := ⟨List.replicate 64 0, by simp⟩
instance : Inhabited B64 := ⟨zeroB⟩
structure Sec where
  text : B64
  next : Option B64
  worn : Bool
  deriving Inhabited
structure Dsk where
  s : List Sec
  off : Bool
  left : Option Nat
structure Dsk.ok (D : Dsk) : Prop where
  pos : 1 ≤ D.s.length
  len : D.s.length ≤ 4096
  left : ∀ n, D.left = some n → n ≤ 9223372036854775807
def clampP (p : Int) : Nat := (max 0 (min p 64)).toNat
theorem clampP_le (p : Int) : clampP p ≤ 64 := by unfold clampP; omega
def mix (b t : B64) (k : Nat) (hk : k ≤ 64) : B64 := ⟨b.1.take k ++ t.1.drop k, by have h1 := b.2; have h2 := t.2; simp; omega⟩
def settle (x : Sec) (p : Int) : Sec := match x.next with
  | none => x
  | some b => ⟨if x.worn then x.text else mix b x.text (clampP p) (clampP_le p), none, x.worn⟩
def mountS (p : Nat → Int) : List Sec → Nat → List Sec
  | [], _ => []
  | x :: s, k => match x.next with
    | none => x :: mountS p s k
    | some _ => settle x (p k) :: mountS p s (k + 1)
def pickF (picks : List Int) (k : Nat) : Int := if k < picks.length then nth picks k else 64
theorem mountS_len (p : Nat → Int) : ∀ (s : List Sec) (k : Nat), (mountS p s k).length = s.length
  | [], _ => rfl
  | x :: s, k => by
    simp only [mountS]
    cases x.next with
    | none => simp [mountS_len p s]
    | some _ => simp [mountS_len p s]
def stepL (l : Option Nat) : Option Nat := l.map (· - 1)
def Dsk.read (D : Dsk) (i : Int) : List UInt8 × Int :=
  if D.off then ([], 21) else if i < 0 ∨ (D.s.length : Int) ≤ i then ([], 1) else (((nth D.s i.toNat).next.getD (nth D.s i.toNat).text).1, 0)
def Dsk.write (D : Dsk) (i : Int) (s : List UInt8) : Int × Dsk :=
  if D.off then (21, D) else if i < 0 ∨ (D.s.length : Int) ≤ i then (1, D) else
  if h : s.length = 64 then (if D.left = some 0 then (21, { D with off := true }) else (0, { D with left := stepL D.left, s := D.s.set i.toNat { nth D.s i.toNat with next := some ⟨s, h⟩ } })) else (1, D)
def Dsk.flush (D : Dsk) : Int × Dsk :=
  if D.off then (21, D) else if D.left = some 0 then (21, { D with off := true }) else (0, { D with left := stepL D.left, s := mountS (fun _ => 64) D.s 0 })
def Dsk.mount (D : Dsk) (picks : List Int) : Dsk := ⟨mountS (pickF picks) D.s 0, false, none⟩
def Dsk.trip (D : Dsk) (n : Int) : Dsk := { D with left := if n < 0 then none else some n.toNat }
def flipB (a : UInt8) (k : Nat) : UInt8 := UInt8.ofNat (a.toNat ^^^ (1 <<< k))
def flipT (t : B64) (bit : Nat) : B64 := ⟨t.1.set (bit / 8) (flipB (nth t.1 (bit / 8)) (bit % 8)), by rw [List.length_set]; exact t.2⟩
def Dsk.rot (D : Dsk) (i bit : Int) : Int × Dsk :=
  if i < 0 ∨ (D.s.length : Int) ≤ i ∨ bit < 0 ∨ 512 ≤ bit then (1, D) else (0, { D with s := D.s.set i.toNat { nth D.s i.toNat with text := flipT (nth D.s i.toNat).text bit.toNat } })
def Dsk.wear (D : Dsk) (i : Int) : Int × Dsk :=
  if i < 0 ∨ (D.s.length : Int) ≤ i then (1, D) else (0, { D with s := D.s.set i.toNat { nth D.s i.toNat with worn := true } })
structure MapIs (es : List (Nat × AVal × AVal)) (n : Nat) (f : Nat → Option AVal) : Prop where
  keys : ∀ e ∈ es, ∃ i : Nat, i < n ∧ e.2.1 = .int .i64 (i : Int) ∧ f i = some e.2.2
  nodup : es.Pairwise (fun a b => a.2.1 ≠ b.2.1)
  has : ∀ i v, f i = some v → ∃ e ∈ es, e.2.1 = .int .i64 (i : Int) ∧ e.2.2 = v
theorem keyEq_nat (i j : Nat) : keyEq (.int .i64) (.int .i64 (i : Int)) (.int .i64 (j : Int)) = decide (i = j) := by
  by_cases h : i = j
  · subst h; simp [keyEq]
  · have : ¬ ((i : Int) = (j : Int)) := by omega
    simp [keyEq, h, this]
theorem findE_none {es : List (Nat × AVal × AVal)} {n : Nat} {f : Nat → Option AVal} {i : Nat} (h1 : ∀ e ∈ es, ∃ j : Nat, j < n ∧ e.2.1 = .int .i64 (j : Int) ∧ f j = some e.2.2) (hf : f i = none) : ∀ k, findE (.int .i64) (.int .i64 (i : Int)) es k = none := by
  induction es with
  | nil => intro k; rfl
  | cons e es ih =>
    intro k
    obtain ⟨j, _, hj, hv⟩ := h1 e (by simp)
    have hne : i ≠ j := by intro q; subst q; rw [hf] at hv; simp at hv
    simp only [findE, hj, keyEq_nat, hne, decide_false, Bool.false_eq_true, if_false]
    exact ih (fun e he => h1 e (by simp [he])) (k + 1)
theorem findE_some {es : List (Nat × AVal × AVal)} {n : Nat} {f : Nat → Option AVal} {i : Nat} {v : AVal} (h1 : ∀ e ∈ es, ∃ j : Nat, j < n ∧ e.2.1 = .int .i64 (j : Int) ∧ f j = some e.2.2) (hf : f i = some v) :
    ∀ k, (∃ e ∈ es, e.2.1 = .int .i64 (i : Int) ∧ e.2.2 = v) → ∃ j, findE (.int .i64) (.int .i64 (i : Int)) es k = some (k + j, v) ∧ ∃ e, es[j]? = some e ∧ e.2.1 = .int .i64 (i : Int) := by
  induction es with
  | nil => rintro k ⟨e, he, _⟩; simp at he
  | cons e es ih =>
    intro k hx
    obtain ⟨j, _, hj, hv⟩ := h1 e (by simp)
    by_cases hij : i = j
    · subst hij
      refine ⟨0, ?_, e, rfl, hj⟩
      simp only [findE, hj, keyEq_nat, decide_true, if_true, Nat.add_zero]
      rw [hf] at hv
      rw [Option.some.inj hv]
    · obtain ⟨e', he', hk, hw⟩ := hx
      have hne : e' ∈ es := by
        rcases List.mem_cons.1 he' with rfl | h
        · rw [hj] at hk; simp at hk; omega
        · exact h
      obtain ⟨m, hm, e2, he2, hk2⟩ := ih (fun e he => h1 e (by simp [he])) (k + 1) ⟨e', hne, hk, hw⟩
      refine ⟨m + 1, ?_, e2, by simpa using he2, hk2⟩
      simp only [findE, hj, keyEq_nat, hij, decide_false, Bool.false_eq_true, if_false, hm]
      congr 2; omega
def upd (f : Nat → Option AVal) (i : Nat) (v : Option AVal) (j : Nat) : Option AVal := if j = i then v else f j
theorem MapIs.getN {es : List (Nat × AVal × AVal)} {n : Nat} {f : Nat → Option AVal} (m : MapIs es n f) {i : Nat} (hf : f i = none) : findE (.int .i64) (.int .i64 (i : Int)) es 0 = none := findE_none m.keys hf 0
theorem MapIs.getS {es : List (Nat × AVal × AVal)} {n : Nat} {f : Nat → Option AVal} (m : MapIs es n f) {i : Nat} {v : AVal} (hf : f i = some v) : ∃ j, findE (.int .i64) (.int .i64 (i : Int)) es 0 = some (j, v) := by
  obtain ⟨j, hj, _⟩ := findE_some m.keys hf 0 (m.has i v hf)
  exact ⟨j, by simpa using hj⟩
theorem MapIs.congr {es : List (Nat × AVal × AVal)} {n : Nat} {f g : Nat → Option AVal} (m : MapIs es n f) (h : ∀ i, i < n → f i = g i) (h' : ∀ i, n ≤ i → g i = none) : MapIs es n g :=
  ⟨fun e he => by obtain ⟨i, hi, h1, h2⟩ := m.keys e he; exact ⟨i, hi, h1, by rw [← h i hi]; exact h2⟩, m.nodup, fun i v hv => by
    by_cases hi : i < n
    · exact m.has i v (by rw [h i hi]; exact hv)
    · rw [h' i (by omega)] at hv; simp at hv⟩
theorem mapIs_nil (n : Nat) : MapIs [] n (fun _ => Option.none) := ⟨by simp, by simp, by simp⟩
theorem MapIs.put {es : List (Nat × AVal × AVal)} {n : Nat} {f : Nat → Option AVal} (m : MapIs es n f) {i : Nat} (hi : i < n) (v : AVal) (c : Nat) : MapIs (mput (.int .i64) (.int .i64 (i : Int)) v c es).2 n (upd f i (Option.some v)) := by
  cases hf : f i with
  | none =>
    have hn := m.getN hf
    simp only [mput, hn]
    refine ⟨fun e he => ?_, ?_, fun j w hw => ?_⟩
    · rcases List.mem_append.1 he with he | he
      · obtain ⟨j, h1, h2, h3⟩ := m.keys e he
        refine ⟨j, h1, h2, ?_⟩
        unfold upd
        rw [if_neg (by rintro rfl; rw [hf] at h3; simp at h3)]; exact h3
      · simp at he; subst he
        exact ⟨i, hi, rfl, by simp [upd]⟩
    · refine List.pairwise_append.2 ⟨m.nodup, by simp, fun a ha b hb => ?_⟩
      simp at hb; subst hb
      obtain ⟨j, h1, h2, h3⟩ := m.keys a ha
      rw [h2]; intro q; simp at q
      have : j = i := by omega
      subst this; rw [hf] at h3; simp at h3
    · unfold upd at hw
      split at hw
      · rename_i hj; subst hj
        obtain rfl := Option.some.inj hw
        exact ⟨(c, .int .i64 (j : Int), v), by simp, rfl, rfl⟩
      · obtain ⟨e, he, h1, h2⟩ := m.has j w hw
        exact ⟨e, by simp [he], h1, h2⟩
  | some v0 =>
    obtain ⟨j, hj, e0, he0, hk0⟩ := findE_some m.keys hf 0 (m.has i v0 hf)
    rw [Nat.zero_add] at hj
    have hjl : j < es.length := (List.getElem?_eq_some_iff.1 he0).1
    have hej : es[j] = e0 := by rw [List.getElem?_eq_getElem hjl] at he0; exact Option.some.inj he0
    simp only [mput, hj]
    have hmod : ∀ (k : Nat) e, (es.modify j fun e => (e.1, AVal.int .i64 (i : Int), v))[k]? = Option.some e → (k = j ∧ e = (e0.1, .int .i64 (i : Int), v)) ∨ (k ≠ j ∧ es[k]? = Option.some e) := by
      intro k e he
      rw [List.getElem?_modify] at he
      by_cases hkj : k = j
      · subst hkj
        rw [he0] at he; simp at he
        exact .inl ⟨rfl, he.symm⟩
      · exact .inr ⟨hkj, by simpa [Ne.symm hkj] using he⟩
    have hkeys : (es.modify j fun e => (e.1, AVal.int .i64 (i : Int), v)).map (·.2.1) = es.map (·.2.1) := by
      apply List.ext_getElem?
      intro k
      simp only [List.getElem?_map, List.getElem?_modify]
      by_cases hkj : j = k
      · subst hkj; simp [he0, hk0]
      · simp [hkj]
    refine ⟨fun e he => ?_, ?_, fun k w hw => ?_⟩
    · obtain ⟨k, hk⟩ := List.getElem?_of_mem he
      rcases hmod k e hk with ⟨_, rfl⟩ | ⟨hkj, hk'⟩
      · exact ⟨i, hi, rfl, by simp [upd]⟩
      · obtain ⟨a, h1, h2, h3⟩ := m.keys e (List.mem_of_getElem? hk')
        refine ⟨a, h1, h2, ?_⟩
        unfold upd
        rw [if_neg]; exact h3
        rintro rfl
        have hnd := List.pairwise_iff_getElem.1 m.nodup
        obtain ⟨hkl, hke⟩ := List.getElem?_eq_some_iff.1 hk'
        rcases Nat.lt_or_gt_of_ne hkj with hlt | hgt
        · exact hnd k j hkl hjl hlt (by rw [hke, hej, h2, hk0])
        · exact hnd j k hjl hkl hgt (by rw [hke, hej, h2, hk0])
    · have := List.pairwise_map.2 m.nodup
      rw [← hkeys] at this
      exact List.pairwise_map.1 this
    · unfold upd at hw
      split at hw
      · rename_i hj'; subst hj'
        obtain rfl := Option.some.inj hw
        refine ⟨(e0.1, .int .i64 (k : Int), v), ?_, rfl, rfl⟩
        refine List.mem_of_getElem? (i := j) ?_
        simp [List.getElem?_modify, he0]
      · rename_i hne
        obtain ⟨e, he, h1, h2⟩ := m.has k w hw
        refine ⟨e, ?_, h1, h2⟩
        obtain ⟨q, hq⟩ := List.getElem?_of_mem he
        have hqj : j ≠ q := by
          rintro rfl
          rw [he0] at hq; obtain rfl := Option.some.inj hq
          rw [hk0] at h1; simp at h1; omega
        refine List.mem_of_getElem? (i := q) ?_
        simp [List.getElem?_modify, hqj, hq]
theorem MapIs.del {es : List (Nat × AVal × AVal)} {n : Nat} {f : Nat → Option AVal} (m : MapIs es n f) (i : Nat) : MapIs (mdelE (.int .i64) (.int .i64 (i : Int)) es) n (upd f i Option.none) := by
  cases hf : f i with
  | none =>
    have hn := m.getN hf
    simp only [mdelE, hn]
    refine ⟨fun e he => ?_, m.nodup, fun j w hw => ?_⟩
    · obtain ⟨j, h1, h2, h3⟩ := m.keys e he
      refine ⟨j, h1, h2, ?_⟩
      unfold upd
      rw [if_neg (by rintro rfl; rw [hf] at h3; simp at h3)]; exact h3
    · unfold upd at hw
      split at hw
      · simp at hw
      · exact m.has j w hw
  | some v0 =>
    obtain ⟨j, hj, e0, he0, hk0⟩ := findE_some m.keys hf 0 (m.has i v0 hf)
    rw [Nat.zero_add] at hj
    have hjl : j < es.length := (List.getElem?_eq_some_iff.1 he0).1
    have hej : es[j] = e0 := by rw [List.getElem?_eq_getElem hjl] at he0; exact Option.some.inj he0
    simp only [mdelE, hj]
    have hsub : (es.eraseIdx j).Sublist es := List.eraseIdx_sublist ..
    refine ⟨fun e he => ?_, m.nodup.sublist hsub, fun k w hw => ?_⟩
    · obtain ⟨a, h1, h2, h3⟩ := m.keys e (hsub.subset he)
      refine ⟨a, h1, h2, ?_⟩
      unfold upd
      rw [if_neg]; exact h3
      rintro rfl
      -- the entry would stand twice
      obtain ⟨k, hk⟩ := List.getElem?_of_mem he
      rw [List.getElem?_eraseIdx] at hk
      have hnd := List.pairwise_iff_getElem.1 m.nodup
      split at hk
      · rename_i hlt
        obtain ⟨hkl, hke⟩ := List.getElem?_eq_some_iff.1 hk
        exact hnd k j hkl hjl hlt (by rw [hke, hej, h2, hk0])
      · rename_i hge
        obtain ⟨hkl, hke⟩ := List.getElem?_eq_some_iff.1 hk
        exact hnd j (k + 1) hjl hkl (by omega) (by rw [hke, hej, h2, hk0])
    · unfold upd at hw
      split at hw
      · simp at hw
      · rename_i hne
        obtain ⟨e, he, h1, h2⟩ := m.has k w hw
        refine ⟨e, ?_, h1, h2⟩
        obtain ⟨q, hq⟩ := List.getElem?_of_mem he
        have hqj : q ≠ j := by
          rintro rfl
          rw [he0] at hq; obtain rfl := Option.some.inj hq
          rw [hk0] at h1; simp at h1; omega
        rcases Nat.lt_or_gt_of_ne hqj with hlt | hgt
        · refine List.mem_of_getElem? (i := q) ?_
          rw [List.getElem?_eraseIdx, if_pos hlt]; exact hq
        · refine List.mem_of_getElem? (i := q - 1) ?_
          rw [List.getElem?_eraseIdx, if_neg (by omega), show q - 1 + 1 = q by omega]; exact hq
theorem MapIs.sorted {es : List (Nat × AVal × AVal)} {n : Nat} {f : Nat → Option AVal} (m : MapIs es n f) (hn : n ≤ 4096) :
    ∃ ns, keysZ es = Option.some ns ∧ sortZ ns = ((List.range n).filter fun i => (f i).isSome).map (fun i : Nat => (i : Int)) ∧ es.length ≤ 17592186044416 := by
  have hk : ∀ (es : List (Nat × AVal × AVal)), (∀ e ∈ es, ∃ i : Nat, i < n ∧ e.2.1 = .int .i64 (i : Int) ∧ f i = Option.some e.2.2) → ∃ is : List Nat, keysZ es = Option.some (is.map fun i : Nat => (i : Int)) ∧ es.map (·.2.1) = is.map (fun i : Nat => AVal.int .i64 (i : Int)) := by
    intro es
    induction es with
    | nil => intro _; exact ⟨[], rfl, rfl⟩
    | cons e es ih =>
      intro h
      obtain ⟨i, h1, h2, h3⟩ := h e (by simp)
      obtain ⟨is, k1, k2⟩ := ih (fun e he => h e (by simp [he]))
      refine ⟨i :: is, ?_, by simp [h2, k2]⟩
      have : keyZ e.2.1 = Option.some (i : Int) := by rw [h2]; exact if_pos ⟨by omega, by omega⟩
      simp [keysZ, this, k1]
  obtain ⟨is, k1, k2⟩ := hk es m.keys
  have hnd : is.Nodup := by
    have h1 : (es.map (·.2.1)).Pairwise (· ≠ ·) := List.pairwise_map.2 m.nodup
    rw [k2] at h1
    exact (List.pairwise_map.1 h1).imp (fun h q => h (by rw [q]))
  have hmem : ∀ i, i ∈ is ↔ i < n ∧ (f i).isSome = true := by
    intro i
    constructor
    · intro hi
      have : AVal.int .i64 (i : Int) ∈ es.map (·.2.1) := by rw [k2]; exact List.mem_map.2 ⟨i, hi, rfl⟩
      obtain ⟨e, he, hq⟩ := List.mem_map.1 this
      obtain ⟨j, h1, h2, h3⟩ := m.keys e he
      rw [h2] at hq; simp at hq
      have : j = i := by omega
      subst this
      exact ⟨h1, by simp [h3]⟩
    · rintro ⟨h1, h2⟩
      obtain ⟨v, hv⟩ := Option.isSome_iff_exists.1 h2
      obtain ⟨e, he, hk, _⟩ := m.has i v hv
      have : AVal.int .i64 (i : Int) ∈ is.map (fun i : Nat => AVal.int .i64 (i : Int)) := by rw [← k2]; exact List.mem_map.2 ⟨e, he, hk⟩
      obtain ⟨j, hj, hq⟩ := List.mem_map.1 this
      simp at hq
      have : j = i := by omega
      subst this; exact hj
  have hperm : is.Perm ((List.range n).filter fun i => (f i).isSome) := by
    refine (List.perm_ext_iff_of_nodup hnd (List.nodup_range.filter _)).2 fun i => ?_
    rw [hmem, List.mem_filter, List.mem_range]
  refine ⟨_, k1, ?_, ?_⟩
  · refine rising_perm ((sortZ_perm _).trans (hperm.map _)) (sortZ_le _) ?_
    refine List.pairwise_map.2 ?_
    exact (List.pairwise_lt_range.filter _).imp (fun h => by omega)
  · have h1 : es.length = is.length := by simpa using congrArg List.length k2
    have h2 := hperm.length_eq
    have h3 := List.length_filter_le (fun i => (f i).isSome) (List.range n)
    simp at h3
    omega
end Go.Proofs.YtjofjgflcogklaaDoor

set_option maxHeartbeats 4000000
namespace Go.Proofs.YtjofjgflcogklaaDoor
open Go Go.Abs
def blkV (x : Sec) : AVal := .agg (x.text.1.map byteV)
def secV (x : Sec) : AVal := .agg [.str x.text.1, .str ((x.next.map (·.1)).getD []), .bool x.next.isSome, .bool x.worn]
theorem blkV_len (x : Sec) : (blkV x).cells.length = 64 := by simp [blkV, AVal.cells, x.text.2]
theorem secV_len (x : Sec) : (secV x).cells.length = 4 := rfl
def nextV (b : B64) : AVal := .agg (b.1.map byteV)
def pendF (s : List Sec) (i : Nat) : Option AVal := if i < s.length then (nth s i).next.map nextV else none
def wornF (s : List Sec) (i : Nat) : Option AVal := if i < s.length ∧ (nth s i).worn = true then some (.bool true) else none
def LeftP (lv : Int) (l : Option Nat) : Prop := match l with
  | none => lv < 0 ∧ -9223372036854775808 ≤ lv
  | some n => lv = (n : Int)
structure PD (h : Heap) (d b p w : Nat) (D : Dsk) : Prop where
  ok : D.ok
  lv : ∃ lv, LeftP lv D.left ∧ h.get d = some (.row true 0 true [.ref b 0 D.s.length 64, .mp p, .mp w, .bool D.off, .int .i64 lv])
  blk : h.get b = some (.row true 64 true (flat (D.s.map blkV)))
  pend : ∃ c es, h.get p = some (.map (.int .i64) c es) ∧ MapIs es D.s.length (pendF D.s)
  worn : ∃ c es, h.get w = some (.map (.int .i64) c es) ∧ MapIs es D.s.length (wornF D.s)
  ne : d ≠ b ∧ d ≠ p ∧ d ≠ w ∧ b ≠ p ∧ b ≠ w ∧ p ≠ w
def leftI (l : Option Nat) : Int := match l with
  | none => -1
  | some n => (n : Int)
structure RD (h : Heap) (r s : Nat) (D : Dsk) : Prop where
  ok : D.ok
  hr : h.get r = some (.row true 0 true [.ref s 0 D.s.length 4, .bool D.off, .int .i64 (leftI D.left)])
  hs : h.get s = some (.row true 4 true (flat (D.s.map secV)))
  ne : r ≠ s
def PS (d b p w : Nat) (j : Nat) : Prop := j = d ∨ j = b ∨ j = p ∨ j = w
def RS (r s : Nat) (j : Nat) : Prop := j = r ∨ j = s
theorem PD.fr {h h' : Heap} {d b p w : Nat} {D : Dsk} (P : PD h d b p w D) {S : Nat → Prop} (a : Fr S h h') (hn : ∀ j, PS d b p w j → ¬ S j) : PD h' d b p w D := by
  obtain ⟨ok, ⟨lv, l1, l2⟩, blk, ⟨c, es, p1, p2⟩, ⟨c', es', w1, w2⟩, ne⟩ := P
  exact ⟨ok, ⟨lv, l1, a.get l2 (hn _ (.inl rfl))⟩, a.get blk (hn _ (.inr (.inl rfl))), ⟨c, es, a.get p1 (hn _ (.inr (.inr (.inl rfl)))), p2⟩, ⟨c', es', a.get w1 (hn _ (.inr (.inr (.inr rfl)))), w2⟩, ne⟩
theorem RD.fr {h h' : Heap} {r s : Nat} {D : Dsk} (R : RD h r s D) {S : Nat → Prop} (a : Fr S h h') (hn : ∀ j, RS r s j → ¬ S j) : RD h' r s D :=
  ⟨R.ok, a.get R.hr (hn _ (.inl rfl)), a.get R.hs (hn _ (.inr rfl)), R.ne⟩
theorem PD.lt {h : Heap} {d b p w : Nat} {D : Dsk} (P : PD h d b p w D) : ∀ j, PS d b p w j → j < h.next := by
  obtain ⟨ok, ⟨lv, l1, l2⟩, blk, ⟨c, es, p1, p2⟩, ⟨c', es', w1, w2⟩, ne⟩ := P
  rintro j (rfl | rfl | rfl | rfl)
  · exact get_lt l2
  · exact get_lt blk
  · exact get_lt p1
  · exact get_lt w1
theorem RD.lt {h : Heap} {r s : Nat} {D : Dsk} (R : RD h r s D) : ∀ j, RS r s j → j < h.next := by
  rintro j (rfl | rfl)
  · exact get_lt R.hr
  · exact get_lt R.hs
variable {h : Heap} {d b p w r s : Nat} {D : Dsk}
theorem cv_rw {g : Nat} {a : List AVal} {h : Heap} {v : AVal} (c : CV F g a h (fun u h' => u = v ∧ h' = h)) (K : AVal → Heap → Prop) : CV F g a h K = K v h := by
  obtain ⟨r, h', c, rfl, rfl⟩ := c
  have hc : GV F g a h' = some (r, h') := by first | exact c | exact GV_of c
  refine propext ⟨fun k => ?_, fun k => ⟨r, h', c, k⟩⟩
  obtain ⟨r2, h2, c2, k⟩ := k
  have hc2 : GV F g a h' = some (r2, h2) := by first | exact c2 | exact GV_of c2
  rw [hc] at hc2
  simp only [Option.some.injEq, Prod.mk.injEq] at hc2
  obtain ⟨rfl, rfl⟩ := hc2
  exact k
theorem check_c (P : PD h d b p w D) (i : Int) : CV F 51 [.ptr d 0, .int .i64 i] h (fun v h' => v = .int .i64 (if D.off then 21 else if i < 0 ∨ (D.s.length : Int) ≤ i then 1 else 0) ∧ h' = h) := by
  obtain ⟨ok, ⟨lv, l1, l2⟩, blk, pe, wo, ne⟩ := P
  have hlen := ok.len
  refine CV_wp (fn := c51) rfl ?_
  dsimp only [c51]
  cases hoff : D.off <;> rw [hoff] at l2
  · replace fx := @l2
    (first | refine go ?_ | exact goC | skip); repeat' (first | refine gP ?_ | exact gPc | refine gN ?_ | exact gNc | (refine gI ?_ ?_ <;> intro hyp <;> first | refine goF ?_ | exact goFc | refine goT ?_ | exact goTc | skip))
    rw [if_neg (by assumption)]
  · replace fx := @l2
    (first | refine go ?_ | exact goC | skip); repeat' (first | refine gP ?_ | exact gPc | refine gN ?_ | exact gNc | (refine gI ?_ ?_ <;> intro hyp <;> first | refine goF ?_ | exact goFc | refine goT ?_ | exact goTc | skip))
theorem len_c (P : PD h d b p w D) : CV F 32 [.ptr d 0] h (fun v h' => v = .int .i64 D.s.length ∧ h' = h) := by
  obtain ⟨ok, ⟨lv, l1, l2⟩, blk, pe, wo, ne⟩ := P
  refine CV_wp (fn := c32) rfl ?_
  dsimp only [c32]
  replace fx := @l2
  (first | refine go ?_ | exact goC | skip); repeat' (first | refine gP ?_ | exact gPc | refine gN ?_ | exact gNc | (refine gI ?_ ?_ <;> intro hyp <;> first | refine goF ?_ | exact goFc | refine goT ?_ | exact goTc | skip))
theorem PD.top {D' : Dsk} {lv : Int} (P : PD h d b p w D) (ok : D'.ok) (hs : D'.s = D.s) (hl : LeftP lv D'.left) :
    PD (h.put d (some (.row true 0 true [.ref b 0 D.s.length 64, .mp p, .mp w, .bool D'.off, .int .i64 lv]))) d b p w D' := by
  obtain ⟨ok0, ⟨lv0, l1, l2⟩, blk, ⟨c, es, p1, p2⟩, ⟨c', es', w1, w2⟩, ne⟩ := P
  obtain ⟨n1, n2, n3, n4, n5, n6⟩ := ne
  exact ⟨ok, ⟨lv, hl, by rw [hs]; exact get_put_old l2⟩, by rw [get_put_ne (Ne.symm n1), hs]; exact blk, ⟨c, es, by rw [get_put_ne (Ne.symm n2)]; exact p1, by rw [hs]; exact p2⟩, ⟨c', es', by rw [get_put_ne (Ne.symm n3)]; exact w1, by rw [hs]; exact w2⟩, ⟨n1, n2, n3, n4, n5, n6⟩⟩
theorem fr_d (h : Heap) (d b p w : Nat) (o : Option Abs.Obj) : Fr (PS d b p w) h (h.put d o) := Fr.put (Fr.refl _ _) (.inl (.inl rfl)) o
theorem step_c (P : PD h d b p w D) : CV F 67 [.ptr d 0] h (fun v h' => (D.left = some 0 ∧ v = .int .i64 21 ∧ PD h' d b p w { D with off := true } ∨ D.left ≠ some 0 ∧ v = .int .i64 0 ∧ PD h' d b p w { D with left := stepL D.left }) ∧ Fr (PS d b p w) h h') := by
  have P0 := P
  obtain ⟨ok, ⟨lv, l1, l2⟩, blk, pe, wo, ne⟩ := P
  refine CV_wp (fn := c67) rfl ?_
  dsimp only [c67]
  cases hl : D.left with
  | none =>
    rw [hl] at l1
    obtain ⟨l1, l1'⟩ := l1
    replace fx := @l2
    (first | refine go ?_ | exact goC | skip); repeat' (first | refine gP ?_ | exact gPc | refine gN ?_ | exact gNc | (refine gI ?_ ?_ <;> intro hyp <;> first | refine goF ?_ | exact goFc | refine goT ?_ | exact goTc | skip))
    exact ⟨⟨⟨P0.ok.pos, P0.ok.len, by simp [stepL]⟩, ⟨lv, ⟨l1, l1'⟩, l2⟩, P0.blk, P0.pend, P0.worn, P0.ne⟩, Fr.refl _ _⟩
  | some n =>
    rw [hl] at l1
    have l1 : lv = (n : Int) := l1
    subst l1
    have hb := P0.ok.left n hl
    replace fx := @l2
    (first | refine go ?_ | exact goC | skip); repeat' (first | refine gP ?_ | exact gPc | refine gN ?_ | exact gNc | (refine gI ?_ ?_ <;> intro hyp <;> first | refine goF ?_ | exact goFc | refine goT ?_ | exact goTc | skip))
    · have hn : n = 0 := by omega
      subst hn
      exact ⟨⟨rfl, P0.top (D' := { D with off := true, left := some 0 }) ⟨ok.pos, ok.len, by simp⟩ rfl rfl⟩, fr_d ..⟩
    · refine ⟨⟨by omega, P0.top (D' := { D with left := stepL (some n) }) ⟨ok.pos, ok.len, fun m hm => by simp [stepL] at hm; omega⟩ rfl ?_⟩, fr_d ..⟩
      show (n : Int) - 1 = ((n - 1 : Nat) : Int)
      omega
end Go.Proofs.YtjofjgflcogklaaDoor

namespace Go.Proofs.YtjofjgflcogklaaDoor
open Go Go.Abs
variable {h : Heap} {d b p w r s : Nat} {D : Dsk}
theorem check_0 (P : PD h d b p w D) (hoff : D.off = false) {i : Int} (h0 : 0 ≤ i) (h1 : i < D.s.length) : CV F 51 [.ptr d 0, .int .i64 i] h (fun v h' => v = .int .i64 0 ∧ h' = h) := by
  have := check_c P i
  rw [hoff, if_neg (by simp), if_neg (by omega)] at this
  exact this
theorem check_1 (P : PD h d b p w D) (hoff : D.off = false) {i : Int} (h0 : i < 0 ∨ (D.s.length : Int) ≤ i) : CV F 51 [.ptr d 0, .int .i64 i] h (fun v h' => v = .int .i64 1 ∧ h' = h) := by
  have := check_c P i
  rw [hoff, if_neg (by simp), if_pos h0] at this
  exact this
theorem check_21 (P : PD h d b p w D) (hoff : D.off = true) (i : Int) : CV F 51 [.ptr d 0, .int .i64 i] h (fun v h' => v = .int .i64 21 ∧ h' = h) := by
  have := check_c P i
  rw [hoff, if_pos rfl] at this
  exact this
theorem blk_take (l : List Sec) (k : Nat) (hk : k < l.length) : ((flat (l.map blkV)).drop (k * 64)).take 64 = (nth l k).text.1.map byteV := by
  have := flatm_get blkV_len l hk (k := 0) (m := 64) (by omega)
  rw [Nat.add_zero] at this
  rw [this, List.drop_zero, List.take_of_length_le (by rw [blkV_len]; exact Nat.le_refl _)]
  rfl
theorem blk_len (l : List Sec) : (flat (l.map blkV)).length = l.length * 64 := flatm_len blkV_len l
def zerosV : List AVal := List.replicate 64 (.int .u8 0)
theorem z64 : List.replicate 64 (AVal.int .u8 0) = zerosV := rfl
def cks : List CK := List.replicate 64 .int
theorem ck64 : List.replicate 64 CK.int = cks := rfl
theorem zerosV_len : zerosV.length = 64 := by simp [zerosV]
theorem nextV_len (v : B64) : (nextV v).cells.length = 64 := by simp [nextV, AVal.cells, v.2]
theorem byteV_one (l : List UInt8) : (l.map byteV).all AVal.one = true := by simp [byteV, AVal.one]
theorem nextV_one (v : B64) : (nextV v).cells.all AVal.one = true := byteV_one v.1
theorem setZ (v : B64) : setCells zerosV 0 (nextV v).cells = (nextV v).cells := setCells_all _ _ (by rw [nextV_len, zerosV_len])
theorem zerosV_one : zerosV.all AVal.one = true := by simp [zerosV, AVal.one]
theorem setZ0 : setCells zerosV 0 zerosV = zerosV := setCells_all _ _ rfl
theorem next_take (v : B64) : ((nextV v).cells.drop 0).take 64 = v.1.map byteV := by rw [List.drop_zero, List.take_of_length_le (by rw [nextV_len]; exact Nat.le_refl _)]; rfl
theorem nextV_cells (v : B64) : (nextV v).cells = v.1.map byteV := rfl
theorem mk_agg (cs : List AVal) : mk true cs = some (.agg cs) := rfl
theorem asM_blk {l : List Sec} {k : Nat} (hk : k < l.length) (id : Nat) (h : Heap) (mu : Bool) (s : Nat) (ag : Bool) : asM id (k * 64) 64 1 h (some (.row mu s ag (flat (l.map blkV)))) = some (.ref id (k * 64) 64 1, h) := asM_row (by rw [blk_len]; omega) (by omega)
theorem b2s_blk {l : List Sec} {k : Nat} (hk : k < l.length) (h : Heap) (mu : Bool) (s : Nat) (ag : Bool) : b2sM (k * 64) 64 h (some (.row mu s ag (flat (l.map blkV)))) = some (.str (nth l k).text.1, h) := b2sM_row (by rw [blk_len]; omega) (blk_take l k hk)
theorem asM_next (v : B64) (id : Nat) (h : Heap) (mu : Bool) (s : Nat) (ag : Bool) : asM id 0 64 1 h (some (.row mu s ag (nextV v).cells)) = some (.ref id 0 64 1, h) := asM_row (by rw [nextV_len]; omega) (by omega)
theorem b2s_next (v : B64) (h : Heap) (mu : Bool) (s : Nat) (ag : Bool) : b2sM 0 64 h (some (.row mu s ag (nextV v).cells)) = some (.str v.1, h) := b2sM_row (by rw [nextV_len]; omega) (next_take v)
theorem read_c (P : PD h d b p w D) (i : Int) : CV F 33 [.ptr d 0, .int .i64 i] h (fun v h' => v = .tup [.str (D.read i).1, .int .i64 (D.read i).2] ∧ PD h' d b p w D ∧ Fr (fun _ => False) h h') := by
  have P0 := P
  obtain ⟨ok, ⟨lv, l1, l2⟩, blk, ⟨c, es, p1, p2⟩, wo, ne⟩ := P
  have hlen := ok.len
  refine CV_wp (fn := c33) rfl ?_
  dsimp only [c33]
  simp only [z64]
  have hd := P0.lt d (.inl rfl)
  have hb := P0.lt b (.inr (.inl rfl))
  have hp := P0.lt p (.inr (.inr (.inl rfl)))
  by_cases hoff : D.off = true
  · have hC := cv_rw (check_21 P0 hoff i)
    replace fx := @hC
    (first | refine go ?_ | exact goC | skip); repeat' (first | refine gP ?_ | exact gPc | refine gN ?_ | exact gNc | (refine gI ?_ ?_ <;> intro hyp <;> first | refine goF ?_ | exact goFc | refine goT ?_ | exact goTc | skip))
    simp [Dsk.read, hoff]
    exact ⟨P0, Fr.refl _ _⟩
  · simp only [Bool.not_eq_true] at hoff
    by_cases hi : i < 0 ∨ (D.s.length : Int) ≤ i
    · have hC := cv_rw (check_1 P0 hoff hi)
      replace fx := @hC
      (first | refine go ?_ | exact goC | skip); repeat' (first | refine gP ?_ | exact gPc | refine gN ?_ | exact gNc | (refine gI ?_ ?_ <;> intro hyp <;> first | refine goF ?_ | exact goFc | refine goT ?_ | exact goTc | skip))
      simp [Dsk.read, hoff, hi]
      exact ⟨P0, Fr.refl _ _⟩
    · obtain ⟨k, rfl⟩ : ∃ k : Nat, i = (k : Int) := ⟨i.toNat, by omega⟩
      have hk : k < D.s.length := by omega
      have hC := cv_rw (check_0 P0 hoff (i := (k : Int)) (by omega) (by omega))
      have hr : D.read (k : Int) = (((nth D.s k).next.getD (nth D.s k).text).1, 0) := by
        unfold Dsk.read
        rw [hoff, if_neg (by simp), if_neg hi]; simp
      rw [hr]
      cases hx : (nth D.s k).next with
      | none =>
        have hL := p2.getN (i := k) (by simp [pendF, hx])
        replace fx := aI @hC (aI @l2 (aI @p1 (aI (lookM_none hL) (aI @blk (aI @zerosV_len (aI @zerosV_one (aI @setZ0 (aI (asM_blk hk) (b2s_blk hk)))))))))
        (first | refine go ?_ | exact goC | skip); repeat' (first | refine gP ?_ | exact gPc | refine gN ?_ | exact gNc | (refine gI ?_ ?_ <;> intro hyp <;> first | refine goF ?_ | exact goFc | refine goT ?_ | exact goTc | skip))
        exact ⟨P0.fr ((Fr.refl (fun _ => False) _).push _) (by simp), (Fr.refl _ _).push _⟩
      | some v =>
        obtain ⟨j, hL⟩ := p2.getS (i := k) (v := nextV v) (by simp [pendF, hk, hx])
        replace fx := aI @hC (aI @l2 (aI @p1 (aI (lookM_some hL) (aI @blk (aI @zerosV_len (aI @zerosV_one (aI @nextV_len (aI @nextV_one (aI @setZ (aI @asM_next @b2s_next))))))))))
        (first | refine go ?_ | exact goC | skip); repeat' (first | refine gP ?_ | exact gPc | refine gN ?_ | exact gNc | (refine gI ?_ ?_ <;> intro hyp <;> first | refine goF ?_ | exact goFc | refine goT ?_ | exact goTc | skip))
        exact ⟨P0.fr ((Fr.refl (fun _ => False) _).push _) (by simp), (Fr.refl _ _).push _⟩
theorem PD.putNext {c : Nat} {es : List (Nat × AVal × AVal)} (P : PD h d b p w D) (p1 : h.get p = some (.map (.int .i64) c es)) (p2 : MapIs es D.s.length (pendF D.s)) {k : Nat} (hk : k < D.s.length) (v : B64) :
    PD (h.put p (some (.map (.int .i64) (mput (.int .i64) (.int .i64 (k : Int)) (nextV v) c es).1 (mput (.int .i64) (.int .i64 (k : Int)) (nextV v) c es).2))) d b p w { D with s := D.s.set k { nth D.s k with next := some v } } := by
  obtain ⟨ok, ⟨lv, l1, l2⟩, blk, _, ⟨c', es', w1, w2⟩, n1, n2, n3, n4, n5, n6⟩ := P
  have hnth : ∀ i, i < D.s.length → nth (D.s.set k { nth D.s k with next := some v }) i = if i = k then { nth D.s k with next := some v } else nth D.s i := by
    intro i hi
    by_cases hik : i = k
    · subst hik; simp [nth, List.getD_eq_getElem?_getD, hi]
    · simp [nth, List.getD_eq_getElem?_getD, List.getElem?_set, Ne.symm hik, hik]
  have hmap : (D.s.set k { nth D.s k with next := some v }).map blkV = D.s.map blkV := by
    apply List.ext_getElem?
    intro i
    by_cases hi : i < D.s.length
    · simp only [List.getElem?_map, List.getElem?_set]
      by_cases hik : k = i
      · subst hik
        simp [hi, blkV, nth, List.getD_eq_getElem?_getD]
      · simp [hik]
    · have e1 : (D.s.set k { nth D.s k with next := some v })[i]? = none := List.getElem?_eq_none (by rw [List.length_set]; omega)
      have e2 : D.s[i]? = none := List.getElem?_eq_none (by omega)
      rw [List.getElem?_map, List.getElem?_map, e1, e2]
  have hlen : (D.s.set k { nth D.s k with next := some v }).length = D.s.length := by simp
  refine ⟨⟨by simpa using ok.pos, by simpa using ok.len, ok.left⟩, ⟨lv, l1, ?_⟩, ?_, ⟨_, _, get_put_old p1, ?_⟩, ⟨c', es', ?_, ?_⟩, n1, n2, n3, n4, n5, n6⟩
  · rw [get_put_ne (by assumption)]; simpa using l2
  · rw [get_put_ne (by assumption)]; simp only [hmap]; exact blk
  · simp only [hlen]
    refine (p2.put hk (nextV v) c).congr (fun i hi => ?_) (fun i hi => ?_)
    · unfold upd pendF
      rw [hlen, if_pos hi, hnth i hi]
      split
      · rfl
      · rfl
    · unfold pendF; rw [hlen, if_neg (by omega)]
  · rw [get_put_ne (Ne.symm n6)]; exact w1
  · simp only [hlen]
    refine w2.congr (fun i hi => ?_) (fun i hi => ?_)
    · unfold wornF
      rw [hlen, hnth i hi]
      split
      · rename_i q
        rw [if_pos]
        refine ⟨q.1, ?_⟩
        split
        · rename_i e; subst e; exact q.2
        · exact q.2
      · rename_i q
        rw [if_neg]
        rintro ⟨q1, q2⟩
        apply q
        refine ⟨q1, ?_⟩
        split at q2
        · rename_i e; subst e; exact q2
        · exact q2
    · unfold wornF; rw [hlen, if_neg (by omega)]
theorem plain_bytes (l : List UInt8) : plain (.agg (l.map byteV)) = true := by
  exact byteV_one l
theorem bytes_rp (s : List UInt8) (hs : s.length = 64) : (s.take 64).map byteV = s.map byteV := by rw [List.take_of_length_le (by omega)]
theorem write_c (P : PD h d b p w D) (i : Int) (s : List UInt8) (hs : s.length ≤ 9223372036854775807) : CV F 53 [.ptr d 0, .int .i64 i, .str s] h (fun v h' => v = .int .i64 (D.write i s).1 ∧ PD h' d b p w (D.write i s).2 ∧ Fr (PS d b p w) h h') := by
  have P0 := P
  obtain ⟨ok, ⟨lv, l1, l2⟩, blk, ⟨c, es, p1, p2⟩, wo, ne⟩ := P
  have hlen := ok.len
  refine CV_wp (fn := c53) rfl ?_
  dsimp only [c53]
  by_cases hoff : D.off = true
  · have hC := cv_rw (check_21 P0 hoff i)
    replace fx := @hC
    (first | refine go ?_ | exact goC | skip); repeat' (first | refine gP ?_ | exact gPc | refine gN ?_ | exact gNc | (refine gI ?_ ?_ <;> intro hyp <;> first | refine goF ?_ | exact goFc | refine goT ?_ | exact goTc | skip))
    simp [Dsk.write, hoff]
    exact ⟨P0, Fr.refl _ _⟩
  simp only [Bool.not_eq_true] at hoff
  by_cases hi : i < 0 ∨ (D.s.length : Int) ≤ i
  · have hC := cv_rw (check_1 P0 hoff hi)
    replace fx := @hC
    (first | refine go ?_ | exact goC | skip); repeat' (first | refine gP ?_ | exact gPc | refine gN ?_ | exact gNc | (refine gI ?_ ?_ <;> intro hyp <;> first | refine goF ?_ | exact goFc | refine goT ?_ | exact goTc | skip))
    simp [Dsk.write, hoff, hi]
    exact ⟨P0, Fr.refl _ _⟩
  obtain ⟨k, rfl⟩ : ∃ k : Nat, i = (k : Int) := ⟨i.toNat, by omega⟩
  have hk : k < D.s.length := by omega
  have hC := cv_rw (check_0 P0 hoff (i := (k : Int)) (by omega) (by omega))
  by_cases h64 : s.length = 64
  · have t64 : s.take 64 = s := List.take_of_length_le (by omega)
    replace fx := @hC
    (first | refine go ?_ | exact goC | skip); repeat' (first | refine gP ?_ | exact gPc | refine gN ?_ | exact gNc | (refine gI ?_ ?_ <;> intro hyp <;> first | refine goF ?_ | exact goFc | refine goT ?_ | exact goTc | skip))
    refine CV_mono (step_c P0) ?_
    rintro v h1 ⟨⟨q, rfl, P1⟩ | ⟨q, rfl, P1⟩, hF⟩
    · replace fx := Dum_eq
      (first | refine go ?_ | exact goC | skip); repeat' (first | refine gP ?_ | exact gPc | refine gN ?_ | exact gNc | (refine gI ?_ ?_ <;> intro hyp <;> first | refine goF ?_ | exact goFc | refine goT ?_ | exact goTc | skip))
      rw [show D.write (k : Int) s = (21, { D with off := true }) by unfold Dsk.write; rw [hoff, if_neg (by simp), if_neg hi, dif_pos h64, if_pos q]]
      exact ⟨rfl, P1, hF⟩
    · have P2 := P1
      obtain ⟨ok', ⟨lv', l1', l2'⟩, blk', ⟨c', es', p1', p2'⟩, wo', ne'⟩ := P1
      have hb6 : (List.map byteV s).length = 64 := by simp [h64]
      have hbt : List.take 64 (List.map byteV s) = List.map byteV s := List.take_of_length_le (by omega)
      replace fx := aI @l2' (aI @p1' (aI @t64 (aI @hb6 (aI @hbt (aI (putM_map (plain_bytes s)) @h64)))))
      (first | refine go ?_ | exact goC | skip); repeat' (first | refine gP ?_ | exact gPc | refine gN ?_ | exact gNc | (refine gI ?_ ?_ <;> intro hyp <;> first | refine goF ?_ | exact goFc | refine goT ?_ | exact goTc | skip))
      rw [show D.write (k : Int) s = (0, { D with left := stepL D.left, s := D.s.set k { nth D.s k with next := some ⟨s, h64⟩ } }) by unfold Dsk.write; rw [hoff, if_neg (by simp), if_neg hi, dif_pos h64, if_neg q]; simp]
      exact ⟨rfl, P2.putNext p1' p2' (k := k) hk ⟨s, h64⟩, hF.put (.inl (.inr (.inr (.inl rfl)))) _⟩
  · replace fx := @hC
    (first | refine go ?_ | exact goC | skip); repeat' (first | refine gP ?_ | exact gPc | refine gN ?_ | exact gNc | (refine gI ?_ ?_ <;> intro hyp <;> first | refine goF ?_ | exact goFc | refine goT ?_ | exact goTc | skip))
    rw [show D.write (k : Int) s = (1, D) by unfold Dsk.write; rw [hoff, if_neg (by simp), if_neg hi, dif_neg h64]]
    exact ⟨rfl, P0, Fr.refl _ _⟩
end Go.Proofs.YtjofjgflcogklaaDoor

namespace Go.Abs
variable {F : Nat → Option AEnt} {ev : Opd → AVal} {h : Heap} {K : AVal → Heap → Prop}
def mnxA (mx : Bool) (x y : AVal) : Option AVal := match x, y with
  | .int k a, .int _ b => some (.int k (if mx then (if a < b then b else a) else (if b < a then b else a)))
  | _, _ => none
theorem XW_mnxK {mx : Bool} {x y : Opd} : XW F (.mnx mx x y) ev h K ↔ bindK (mnxA mx (ev x) (ev y)) K h := by
  refine XW_val (fun _ => rfl) ?_
  simp only [evalA, mnxA]
  cases ev x <;> cases ev y <;> rfl
theorem mnx_max (k k' : IntKind) (a b : Int) : mnxA true (.int k a) (.int k' b) = some (.int k (max a b)) := by
  simp only [mnxA, if_true]
  congr 2
  rw [Int.max_def]
  split <;> split <;> omega
theorem mnx_min (k k' : IntKind) (a b : Int) : mnxA false (.int k a) (.int k' b) = some (.int k (min a b)) := by
  simp only [mnxA, Bool.false_eq_true, if_false]
  congr 2
  rw [Int.min_def]
  split <;> split <;> omega
end Go.Abs
namespace Go.Proofs.YtjofjgflcogklaaDoor
open Go Go.Abs
variable {h : Heap} {d b p w r s : Nat} {D : Dsk}
theorem cells_bytes : ∀ (l l' : List UInt8), l.length = l'.length → cellsEq (List.replicate l.length .int) (l.map byteV) (l'.map byteV) = some (decide (l = l'))
  | [], [], _ => rfl
  | a :: l, b :: l', hl => by
    have ih := cells_bytes l l' (by simpa using hl)
    simp only [List.length_cons, List.replicate_succ, List.map_cons, cellsEq]
    by_cases hab : a = b
    · subst hab
      simp [cellEq, byteV, ih]
    · have : ((a.toNat : Int) == (b.toNat : Int)) = false := by
        rw [beq_eq_false_iff_ne]
        exact fun q => hab (UInt8.toNat_inj.1 (by omega))
      simp only [cellEq, byteV, this, if_true]
      simp [hab]
  | [], _ :: _, h => by simp at h
  | _ :: _, [], h => by simp at h
theorem cells_blk (v : B64) (x : Sec) : cellsEq cks (v.1.map byteV) (x.text.1.map byteV) = some (decide (v.1 = x.text.1)) := by
  have := cells_bytes v.1 x.text.1 (by rw [v.2, x.text.2])
  rw [v.2] at this
  exact this
theorem copyA_rows {b x m : Nat} {sz sx : Nat} {ag ax : Bool} {mx : Bool} {cs xs : List AVal} {off : Nat} (hb : h.get b = some (.row true sz ag cs)) (hx : h.get x = some (.row mx sx ax xs)) (hl : xs.length = 64) (ho : off + m ≤ cs.length) (hm : m ≤ 64) (h1 : xs.all AVal.one = true) :
    copyA 1 (.ref b off m 1) (.ref x 0 64 1) h = some (.int .i64 m, h.put b (some (.row true sz ag (setCells cs off (xs.take m))))) := by
  have e : elemsA h 1 (.ref x 0 64 1) = some xs := by
    simp only [elemsA, if_true, hx, hl]
    simp [List.take_of_length_le (show xs.length ≤ 64 by omega)]
  have hmin : min 64 m = m := by omega
  simp only [copyA, e, lenA, hb, hmin, Nat.mul_one, true_and, ho, h1]
  simp
theorem setCells_pre : ∀ (ys a : List AVal), ys.length ≤ a.length → setCells a 0 ys = ys ++ a.drop ys.length := by
  intro ys a hl
  have := setCells_append_left ys (a.take ys.length) (a.drop ys.length) 0 (by simp; omega)
  rw [List.take_append_drop] at this
  rw [this, setCells_all _ _ (by simp; omega)]
theorem set_blk (l : List Sec) {k : Nat} (hk : k < l.length) (x : Sec) (v : B64) {m : Nat} (hm : m ≤ 64) (ht : x.text = mix v (nth l k).text m hm) : setCells (flat (l.map blkV)) (k * 64) ((nextV v).cells.take m) = flat ((l.set k x).map blkV) := by
  have hln := (nth l k).text.2
  have hlv := v.2
  have := setCells_flat (f := blkV) (sz := 64) blkV_len l (n := k) (k := 0) (ys := (nextV v).cells.take m) (x' := x) hk (by rw [List.length_take, nextV_len]; omega) (by
    rw [setCells_pre _ _ (by rw [List.length_take, nextV_len, blkV_len]; omega)]
    have hm' : ((nextV v).cells.take m).length = m := by rw [List.length_take, nextV_len]; omega
    rw [hm']
    show x.text.1.map byteV = _
    rw [ht]
    show ((v.1.take m) ++ (nth l k).text.1.drop m).map byteV = (v.1.map byteV).take m ++ ((nth l k).text.1.map byteV).drop m
    rw [List.map_append, List.map_take, List.map_drop])
  simpa using this
theorem mix_same (v : B64) (m : Nat) (hm : m ≤ 64) : mix v v m hm = v := by
  unfold mix
  apply Subtype.ext
  exact List.take_append_drop m v.1
theorem nth_set {l : List Sec} {k : Nat} (x : Sec) (hk : k < l.length) (i : Nat) : nth (l.set k x) i = if i = k then x else nth l i := by
  by_cases hik : i = k
  · subst hik; simp [nth, List.getD_eq_getElem?_getD, hk]
  · simp [nth, List.getD_eq_getElem?_getD, List.getElem?_set, Ne.symm hik, hik]
theorem PD.turn {h h' : Heap} (P : PD h d b p w D) {k : Nat} (hk : k < D.s.length) (x : Sec) (hd : h'.get d = h.get d)
    (hb : h'.get b = some (.row true 64 true (flat ((D.s.set k x).map blkV))))
    (hp : ∃ c es, h'.get p = some (.map (.int .i64) c es) ∧ MapIs es D.s.length (upd (pendF D.s) k (x.next.map nextV)))
    (hw : ∃ c es, h'.get w = some (.map (.int .i64) c es) ∧ MapIs es D.s.length (upd (wornF D.s) k (if x.worn then some (.bool true) else none))) :
    PD h' d b p w { D with s := D.s.set k x } := by
  obtain ⟨ok, ⟨lv, l1, l2⟩, blk, pe, wo, n⟩ := P
  obtain ⟨c, es, p1, p2⟩ := hp
  obtain ⟨c', es', w1, w2⟩ := hw
  have hlen : (D.s.set k x).length = D.s.length := by simp
  refine ⟨⟨by simpa using ok.pos, by simpa using ok.len, ok.left⟩, ⟨lv, l1, by rw [hd, l2]; simp⟩, hb, ⟨c, es, p1, ?_⟩, ⟨c', es', w1, ?_⟩, n⟩
  · simp only [hlen]
    refine p2.congr (fun i hi => ?_) (fun i hi => ?_)
    · unfold upd pendF
      rw [hlen, if_pos hi, if_pos hi, nth_set x hk]
      split <;> rfl
    · unfold pendF; rw [hlen, if_neg (by omega)]
  · simp only [hlen]
    refine w2.congr (fun i hi => ?_) (fun i hi => ?_)
    · unfold upd wornF
      rw [hlen, nth_set x hk]
      by_cases hik : i = k
      · subst hik
        rw [if_pos rfl, if_pos rfl]
        by_cases hx : x.worn = true
        · rw [if_pos hx, if_pos ⟨hi, hx⟩]
        · rw [if_neg hx, if_neg (fun q => hx q.2)]
      · rw [if_neg hik, if_neg hik]
    · unfold wornF; rw [hlen, if_neg (by omega)]
theorem upd_same {f : Nat → Option AVal} {k : Nat} {v : Option AVal} (h : f k = v) : upd f k v = f := by
  funext i
  unfold upd
  split
  · rename_i q; subst q; exact h.symm
  · rfl
theorem wornF_at {l : List Sec} {k : Nat} (hk : k < l.length) : wornF l k = if (nth l k).worn then some (.bool true) else none := by
  unfold wornF
  by_cases hx : (nth l k).worn = true
  · rw [if_pos hx, if_pos ⟨hk, hx⟩]
  · rw [if_neg hx, if_neg (fun q => hx q.2)]
theorem pendF_at {l : List Sec} {k : Nat} (hk : k < l.length) : pendF l k = (nth l k).next.map nextV := if_pos hk
theorem settle_c (P : PD h d b p w D) {k : Nat} (hk : k < D.s.length) {v : B64} (hv : (nth D.s k).next = some v) (pp : Int) :
    CV F 69 [.ptr d 0, .int .i64 (k : Int), .int .i64 pp] h (fun _ h' => PD h' d b p w { D with s := D.s.set k (settle (nth D.s k) pp) } ∧ Fr (PS d b p w) h h') := by
  have P0 := P
  obtain ⟨ok, ⟨lv, l1, l2⟩, blk, ⟨c, es, p1, p2⟩, ⟨c', es', w1, w2⟩, n1, n2, n3, n4, n5, n6⟩ := P
  have hlen := ok.len
  refine CV_wp (fn := c69) rfl ?_
  dsimp only [c69]
  simp only [z64, ck64]
  have hd := P0.lt d (.inl rfl)
  have hb := P0.lt b (.inr (.inl rfl))
  have hp := P0.lt p (.inr (.inr (.inl rfl)))
  have hw := P0.lt w (.inr (.inr (.inr rfl)))
  obtain ⟨j, hL⟩ := p2.getS (i := k) (v := nextV v) (by rw [pendF_at hk, hv]; rfl)
  have Lb : ∀ (mu : Bool) (s : Nat) (a : Bool), loadG 64 true (k * 64) (some (.row mu s a (flat (D.s.map blkV)))) = some (blkV (nth D.s k)) := fun mu s a => by
    rw [loadG_flat0 (f := blkV) (sz := 64) blkV_len D.s true mu s a hk (by omega), List.take_of_length_le (by rw [blkV_len]; exact Nat.le_refl _)]; rfl
  have hG : ∀ (H : Heap), (∀ i, i ≠ b → i < h.next → H.get i = (h.put p (some (.map (.int .i64) c (mdelE (.int .i64) (.int .i64 (k : Int)) es)))).get i) → h.next ≤ H.next → H.get b = some (.row true 64 true (flat ((D.s.set k (settle (nth D.s k) pp)).map blkV))) →
      PD H d b p w { D with s := D.s.set k (settle (nth D.s k) pp) } ∧ Fr (PS d b p w) h H := by
    intro H hH hHn hHb
    have hsn : (settle (nth D.s k) pp).next = none := by unfold settle; rw [hv]
    have hsw : (settle (nth D.s k) pp).worn = (nth D.s k).worn := by unfold settle; rw [hv]
    refine ⟨P0.turn hk _ ?_ hHb ⟨c, _, by rw [hH p (Ne.symm n4) hp]; exact get_put_old p1, by rw [hsn]; exact p2.del k⟩ ⟨c', es', by rw [hH w (Ne.symm n5) hw, get_put_ne (Ne.symm n6)]; exact w1, ?_⟩, hHn, fun i hi hS => ?_⟩
    · rw [hH d n1 hd, get_put_ne (by assumption)]
    · rw [hsw, upd_same (wornF_at hk)]; exact w2
    · rw [hH i (fun q => hS (.inr (.inl q))) hi, get_put_ne (fun q => hS (.inr (.inr (.inl q))))]
  have hset : ∀ x : Sec, x.text = (nth D.s k).text → (D.s.set k x).map blkV = D.s.map blkV := fun x hx => by
    apply List.ext_getElem?
    intro i
    simp only [List.getElem?_map, List.getElem?_set]
    by_cases hik : k = i
    · subst hik
      simp [hk, blkV, hx, nth, List.getD_eq_getElem?_getD]
    · simp [hik]
  have t64 : List.take 64 (nextV v).cells = (nextV v).cells := List.take_of_length_le (by rw [nextV_len]; exact Nat.le_refl _)
  cases hx : (nth D.s k).worn with
  | true =>
    obtain ⟨j', hW⟩ := w2.getS (i := k) (v := .bool true) (by rw [wornF_at hk, hx]; rfl)
    replace fx := aI @l2 (aI @p1 (aI @w1 (aI (lookM_some hL) (aI (lookM_some hW) (aI @zerosV_len (aI @zerosV_one (aI @nextV_len (aI @nextV_one @setZ))))))))
    (first | refine go ?_ | exact goC | skip); repeat' (first | refine gP ?_ | exact gPc | refine gN ?_ | exact gNc | (refine gI ?_ ?_ <;> intro hyp <;> first | refine goF ?_ | exact goFc | refine goT ?_ | exact goTc | skip))
    refine hG _ (fun i hi hi' => get_push_ne (by simp only [put_next]; omega)) (by simp only [push_next, put_next]; omega) ?_
    rw [hset _ (by unfold settle; rw [hv]; simp [hx]), get_push_ne (by simp only [put_next]; omega), get_put_ne (by assumption)]; exact blk
  | false =>
    have hW := w2.getN (i := k) (by rw [wornF_at hk, hx]; rfl)
    have hst : (settle (nth D.s k) pp).text = mix v (nth D.s k).text (clampP pp) (clampP_le pp) := by unfold settle; rw [hv]; simp [hx]
    have hN : binA .neq (.struct cks) (.agg (nextV v).cells) (blkV (nth D.s k)) = some (.bool (!decide (v.1 = (nth D.s k).text.1))) := by
      have := cells_blk v (nth D.s k)
      simp only [nextV_cells, blkV, bin_struct_neq, this, Option.map_some]
    by_cases he : v.1 = (nth D.s k).text.1
    · have he' : v = (nth D.s k).text := Subtype.ext he
      rw [decide_eq_true he] at hN
      replace fx := aI @l2 (aI @p1 (aI @w1 (aI (lookM_some hL) (aI (lookM_none hW) (aI @zerosV_len (aI @zerosV_one (aI @nextV_len (aI @nextV_one (aI @setZ (aI @blk (aI @Lb (aI @t64 @hN))))))))))))
      (first | refine go ?_ | exact goC | skip); repeat' (first | refine gP ?_ | exact gPc | refine gN ?_ | exact gNc | (refine gI ?_ ?_ <;> intro hyp <;> first | refine goF ?_ | exact goFc | refine goT ?_ | exact goTc | skip))
      refine hG _ (fun i hi hi' => get_push_ne (by simp only [put_next]; omega)) (by simp only [push_next, put_next]; omega) ?_
      rw [hset _ (by rw [hst, he', mix_same]), get_push_ne (by simp only [put_next]; omega), get_put_ne (by assumption)]; exact blk
    · rw [decide_eq_false he] at hN
      have hm1 : 0 ≤ max 0 (min pp 64) := by omega
      have hm2 : max 0 (min pp 64) ≤ 64 := by omega
      have hA2 : ∀ (H : Heap), asM2 b (k * 64) 64 1 (max 0 (min pp 64)) H (some (.row true 64 true (flat (D.s.map blkV)))) = some (.ref b (k * 64) (clampP pp) 1, H) := fun H => asM2_row (by rw [blk_len]; omega) (by omega) hm1 hm2
      have hc64 := clampP_le pp
      replace fx := aI @l2 (aI @p1 (aI @w1 (aI (lookM_some hL) (aI (lookM_none hW) (aI @zerosV_len (aI @zerosV_one (aI @nextV_len (aI @nextV_one (aI @setZ (aI @blk (aI @Lb (aI @t64 (aI @hN (aI @XW_mnxK (aI @mnx_max (aI @mnx_min (aI @hA2 @asM_next)))))))))))))))))
      (first | refine go ?_ | exact goC | skip); repeat' (first | refine gP ?_ | exact gPc | refine gN ?_ | exact gNc | (refine gI ?_ ?_ <;> intro hyp <;> first | refine goF ?_ | exact goFc | refine goT ?_ | exact goTc | skip))
      have hbl : flat (D.s.map blkV) = flat (D.s.map blkV) := rfl
      rw [copyA_rows (h := (h.put p (some (.map (.int .i64) c (mdelE (.int .i64) (.int .i64 (k : Int)) es)))).push (.row true (typed 98) true (nextV v).cells)) (cs := flat (D.s.map blkV)) (xs := (nextV v).cells) (by rw [get_push_ne (by simp only [put_next]; omega), get_put_ne (by assumption)]; exact blk)
        (get_push_eq (by rw [put_next])) (nextV_len v) (by rw [blk_len]; omega) hc64 (nextV_one v), set_blk D.s hk (settle (nth D.s k) pp) v hc64 hst]
      replace fx := Dum_eq
      (first | refine go ?_ | exact goC | skip); repeat' (first | refine gP ?_ | exact gPc | refine gN ?_ | exact gNc | (refine gI ?_ ?_ <;> intro hyp <;> first | refine goF ?_ | exact goFc | refine goT ?_ | exact goTc | skip))
      refine hG _ (fun i hi hi' => by rw [get_push_ne (by simp only [put_next]; omega), get_put_ne hi]) (by simp only [push_next, put_next]; omega) ?_
      rw [get_push_ne (by simp only [put_next]; omega)]
      exact get_put_old (o1 := .row true 64 true (flat (D.s.map blkV))) (by rw [get_put_ne (by assumption)]; exact blk)
theorem wear_c (P : PD h d b p w D) (i : Int) : CV F 14 [.ptr d 0, .int .i64 i] h (fun v h' => v = .int .i64 (D.wear i).1 ∧ PD h' d b p w (D.wear i).2 ∧ Fr (PS d b p w) h h') := by
  have P0 := P
  obtain ⟨ok, ⟨lv, l1, l2⟩, blk, ⟨c, es, p1, p2⟩, ⟨c', es', w1, w2⟩, n1, n2, n3, n4, n5, n6⟩ := P
  have hlen := ok.len
  refine CV_wp (fn := c14) rfl ?_
  dsimp only [c14]
  by_cases hi : i < 0 ∨ (D.s.length : Int) ≤ i
  · rw [show D.wear i = (1, D) from if_pos hi]
    replace fx := @l2
    (first | refine go ?_ | exact goC | skip); repeat' (first | refine gP ?_ | exact gPc | refine gN ?_ | exact gNc | (refine gI ?_ ?_ <;> intro hyp <;> first | refine goF ?_ | exact goFc | refine goT ?_ | exact goTc | skip))
    · exact ⟨P0, Fr.refl _ _⟩
    · exact ⟨P0, Fr.refl _ _⟩
  · obtain ⟨k, rfl⟩ : ∃ k : Nat, i = (k : Int) := ⟨i.toNat, by omega⟩
    have hk : k < D.s.length := by omega
    rw [show D.wear (k : Int) = (0, { D with s := D.s.set k { nth D.s k with worn := true } }) by unfold Dsk.wear; rw [if_neg hi]; simp]
    replace fx := aI @l2 (aI @w1 (putM_map (kd := .int .i64) (v := AVal.bool true) (by rfl)))
    (first | refine go ?_ | exact goC | skip); repeat' (first | refine gP ?_ | exact gPc | refine gN ?_ | exact gNc | (refine gI ?_ ?_ <;> intro hyp <;> first | refine goF ?_ | exact goFc | refine goT ?_ | exact goTc | skip))
    refine ⟨P0.turn hk { nth D.s k with worn := true } (get_put_ne (by assumption)) ?_ ⟨c, es, by rw [get_put_ne (by assumption)]; exact p1, ?_⟩ ⟨_, _, get_put_old w1, w2.put hk (.bool true) c'⟩, Fr.put (Fr.refl _ _) (.inl (.inr (.inr (.inr rfl)))) _⟩
    · rw [get_put_ne (by assumption), blk]
      congr 3
      apply List.ext_getElem?
      intro i
      simp only [List.getElem?_map, List.getElem?_set]
      by_cases hik : k = i
      · subst hik
        simp [hk, blkV, nth, List.getD_eq_getElem?_getD]
      · simp [hik]
    · rw [upd_same (pendF_at hk)]; exact p2
end Go.Proofs.YtjofjgflcogklaaDoor

namespace Go.Abs
variable {h : Heap} {K : AVal → Heap → Prop} {F : Nat → Option AEnt}
theorem asB (l : List UInt8) (id off n : Nat) (h : Heap) (mu : Bool) (s : Nat) (ag : Bool) (hl : off + n ≤ l.length) : asM id off n 1 h (some (.row mu s ag (l.map byteV))) = some (.ref id off n 1, h) := asM_row (by rw [List.length_map]; omega) (by omega)
theorem asB2 (l : List UInt8) (id off n : Nat) (b : Int) (h : Heap) (mu : Bool) (s : Nat) (ag : Bool) (hl : off + n ≤ l.length) (h0 : 0 ≤ b) (h1 : b ≤ n) : asM2 id off n 1 b h (some (.row mu s ag (l.map byteV))) = some (.ref id off b.toNat 1, h) := asM2_row (by rw [List.length_map]; omega) (by omega) h0 h1
theorem asB3 (l : List UInt8) (id off n : Nat) (a : Int) (h : Heap) (mu : Bool) (s : Nat) (ag : Bool) (hl : off + n ≤ l.length) : asM3 id off n 1 a h (some (.row mu s ag (l.map byteV))) = some (.ref id (off + a.toNat) (n - a.toNat) 1, h) := by
  rw [asM3_row (by rw [List.length_map]; omega) (by omega), Nat.mul_one]
theorem asB4 (l : List UInt8) (id off n : Nat) (a b : Int) (h : Heap) (mu : Bool) (s : Nat) (ag : Bool) (hl : off + n ≤ l.length) : asM4 id off n 1 a b h (some (.row mu s ag (l.map byteV))) = some (.ref id (off + a.toNat) (b.toNat - a.toNat) 1, h) := by
  rw [asM4_row (by rw [List.length_map]; omega) (by omega), Nat.mul_one]
theorem b2sB (l : List UInt8) (off n : Nat) (h : Heap) (mu : Bool) (s : Nat) (ag : Bool) (hl : off + n ≤ l.length) : b2sM off n h (some (.row mu s ag (l.map byteV))) = some (.str ((l.drop off).take n), h) :=
  b2sM_row (by rw [List.length_map]; exact hl) (by rw [List.map_take, List.map_drop])
theorem X_as_tfP (n sz : Nat) (ag : Bool) (id off : Nat) (k : IntKind) (a : Int) (h : Heap) (h0 : 0 ≤ a) (h1 : a ≤ n) : evalX (.aslice n sz ag true false) [.ptr id off, .int k a] h = asM3 id off n sz a h (h.get id) := X_as_tf n sz ag id off k a h h0 h1
def bR := And.intro @asB (And.intro @asB2 (And.intro @asB3 (And.intro @asB4 (And.intro @b2sB (And.intro @byte_cells @byte_one)))))
theorem bytes_all (l : List UInt8) : (l.map byteV).all AVal.one = true := by simp [byte_one]
theorem strip_bytes (l : List UInt8) : stripL (l.map byteV) = some (l.map byteV) := by
  induction l with
  | nil => rfl
  | cons x l ih => simp only [List.map_cons, stripL, ih, byteV, st_int]
theorem pure_bytes (h : Heap) (l : List UInt8) : purifyL h (l.map byteV) = some (l.map byteV) := by
  induction l with
  | nil => rfl
  | cons x l ih => simp only [List.map_cons, puL_cons, ih, byteV, pu_int, sc_some]
theorem readRef_bytes {l : List UInt8} {id off n : Nat} {mu : Bool} {S : Nat} {ag : Bool} (g : h.get id = some (.row mu S ag (l.map byteV))) (hS : S ≠ 1) (hl : off + n ≤ l.length) : readRef h id off n 1 = some (((l.drop off).take n).map byteV) := by
  unfold readRef
  simp only [g]
  rw [if_pos ⟨.inr trivial, by rw [List.length_map]; omega⟩]
  simp only [strip_bytes, hS, decide_false, Bool.and_false]
  have hc := chunkm (f := byteV) (sz := 1) byte_len false (fun x => rfl) ((l.drop off).take n) (((l.drop off).drop n).map byteV)
  have hn : ((l.drop off).take n).length = n := by rw [List.length_take, List.length_drop]; omega
  rw [hn] at hc
  have e : (l.map byteV).drop off = flat (((l.drop off).take n).map byteV) ++ ((l.drop off).drop n).map byteV := by
    rw [flat_byte, ← List.map_append, List.take_append_drop, List.map_drop]
  rw [e]; exact hc
theorem pu_bytes {l : List UInt8} {id off n : Nat} {mu : Bool} {S : Nat} {ag : Bool} (g : h.get id = some (.row mu S ag (l.map byteV))) (hS : S ≠ 1) (hl : off + n ≤ l.length) : purify h (.ref id off n 1) = some (.sl (((l.drop off).take n).map byteV) .none) := by
  rw [pu_ref, readRef_bytes g hS hl]; rfl
theorem puL_1 {x x' : AVal} (h1 : purify h x = some x') : purifyL h [x] = some [x'] := by rw [puL_cons, h1, puL_nil]; rfl
theorem puL_2 {x x' y y' : AVal} (h1 : purify h x = some x') (h2 : purify h y = some y') : purifyL h [x, y] = some [x', y'] := by rw [puL_cons, h1, puL_1 h2]; rfl
theorem PC_lend {f : Nat} {args : List AVal} {asx : List AVal} {r : AVal} (hs : purifyL h args = some asx) (g : CV F f asx Heap.empty (fun v _ => v = r)) (hsc : scal r = true) (k : K r h) : PC F f none args h K := by
  obtain ⟨v, h', g, rfl⟩ := g
  exact PC_none.2 ⟨asx, hs, v, h', GV_of g, hsc, k⟩
theorem scal_bytes (l : List UInt8) : scal (.agg (l.map byteV)) = true := by
  have : scalL (l.map byteV) = true := by
    induction l with
    | nil => rfl
    | cons x l ih => simp only [List.map_cons, scalL, ih, byteV, scal, Bool.and_self]
  exact this
theorem zeros_b (n : Nat) : List.replicate n (AVal.int .u8 0) = (List.replicate n (0 : UInt8)).map byteV := by rw [List.map_replicate]; rfl
theorem set_bytes (l m : List UInt8) (hl : l.length = m.length) : setCells (l.map byteV) 0 (m.map byteV) = m.map byteV := setCells_all _ _ (by simp [hl])
def GrF {α : Type} (S : Nat → Prop) (h0 h : Heap) (ty sz : Nat) (l : List α) (tk : Tok) : Prop := Gr h ty sz l tk ∧ Fr S h0 h ∧ ∀ i s, tk = .own i s → h0.next ≤ i
theorem GrF.gr {α : Type} {S : Nat → Prop} {h0 h : Heap} {ty sz : Nat} {l : List α} {tk : Tok} (g : GrF S h0 h ty sz l tk) : Gr h ty sz l tk := g.1
theorem GrF.fr {α : Type} {S : Nat → Prop} {h0 h : Heap} {ty sz : Nat} {l : List α} {tk : Tok} (g : GrF S h0 h ty sz l tk) : Fr S h0 h := g.2.1
theorem Gr.nil {α : Type} (h : Heap) (ty sz : Nat) : Gr h ty sz ([] : List α) .nil := .inl ⟨rfl, .inl rfl⟩
theorem GrF.nil {α : Type} (S : Nat → Prop) (h : Heap) (ty sz : Nat) : GrF S h h ty sz ([] : List α) .nil := ⟨Gr.nil h ty sz, Fr.refl _ _, by simp⟩
theorem Gr.fr {α : Type} {S : Nat → Prop} {h h' : Heap} {ty sz : Nat} {l : List α} {tk : Tok} (g : Gr h ty sz l tk) (f : Fr S h h') (hS : ∀ i s, tk = .own i s → ¬ S i) : Gr h' ty sz l tk := by
  rcases g with g | ⟨i, e, g⟩
  · exact .inl g
  · exact .inr ⟨i, e, by rw [f.2 i (get_lt g) (hS i sz e)]; exact g⟩
theorem GrF.step {α : Type} {S : Nat → Prop} {h0 h h' : Heap} {ty sz : Nat} {l : List α} {tk : Tok} (g : GrF S h0 h ty sz l tk) (f : Fr (fun _ => False) h h') : GrF S h0 h' ty sz l tk :=
  ⟨g.1.fr f (fun _ _ _ q => q), g.2.1.trans ⟨f.1, fun j hj _ => f.2 j hj (fun q => q)⟩, g.2.2⟩
theorem append_F {α : Type} [Inhabited α] {f : α → AVal} {sz : Nat} {S : Nat → Prop} {h0 h : Heap} {ty bytes : Nat} {ag : Bool} {tk : Tok} {y : AVal} (l ys : List α) (hf : ∀ x, (f x).cells.length = sz) (hm : ∀ x, mk ag (f x).cells = some (f x)) (hs : ∀ x, stripL (f x).cells = some (f x).cells)
    (hy : lenA y = some ys.length) (hn : elemsA h sz y = some (flat (ys.map f))) (hg : GrF S h0 h ty sz l tk) (hlen : l.length + ys.length ≤ 1000000) (hb : bytes ≤ 10000) (hz0 : 0 < sz) (hz1 : sz < 1000000)
    (q : ∀ h' tk', GrF S h0 h' ty sz (l ++ ys) tk' → h.next ≤ h'.next → (∀ j mu s a cs, h.get j = some (.row mu s a cs) → h'.get j = some (.row mu s a cs)) → (∀ j, j < h.next → (∀ i s, tk = .own i s → j ≠ i) → h'.get j = h.get j) → K (.sl ((l ++ ys).map f) tk') h') : bindH (appendA false ty bytes sz ag (.sl (l.map f) tk) y h) K := by
  obtain ⟨g1, g2, g3⟩ := hg
  by_cases hne : ys = []
  · subst hne
    refine ⟨_, h, by simp only [appendA, hy, hn, List.length_nil, if_true]; rfl, ?_⟩
    have := q h tk (by rw [List.append_nil]; exact ⟨g1, g2, g3⟩) (Nat.le_refl _) (fun _ _ _ _ _ h => h) (fun _ _ _ => rfl)
    rwa [List.append_nil] at this
  · rcases g1 with ⟨rfl, ht⟩ | ⟨id, rfl, hg⟩
    · refine append_new (f := f) ys ht hf hm hs hy hn (by simpa using hlen) hb hz0 hz1 hne (q _ _ ⟨.inr ⟨_, rfl, get_push_eq rfl⟩, g2.push _, fun i s e => ?_⟩ (by rw [push_next]; omega) (fun j mu s a cs hj => get_push_old hj) (fun j hj _ => get_push_ne (by omega)))
      simp only [Tok.own.injEq] at e
      have := g2.1; omega
    · obtain ⟨h', e, e1, e2, e3⟩ := append_own (bytes := bytes) hf hm hs hy hn (.inr ⟨id, rfl, hg⟩) (by simp) hlen hb hz0 hz1 hne
      have hid := g3 id sz rfl
      refine ⟨_, h', e, q h' _ ⟨.inr ⟨_, rfl, e2⟩, ⟨by have := g2.1; omega, fun j hj hS => ?_⟩, fun i s e => ?_⟩ (by omega) (fun j mu s a cs hj => ?_) e3⟩
      · rw [e3 j (by have := g2.1; omega) (by rintro i s' e rfl; simp only [Tok.own.injEq] at e; omega)]
        exact g2.2 j hj hS
      · simp only [Tok.own.injEq] at e
        have := g2.1; omega
      · rw [e3 j (get_lt hj)]
        · exact hj
        · rintro i s' e rfl
          simp only [Tok.own.injEq] at e
          rw [e.1, hj] at hg
          simp at hg
theorem Gr.toF {α : Type} {h : Heap} {ty sz : Nat} {l : List α} {tk : Tok} (g : Gr h ty sz l tk) : GrF (fun _ => False) Heap.empty h ty sz l tk := ⟨g, ⟨Nat.zero_le _, fun j hj => absurd hj (Nat.not_lt_zero j)⟩, fun _ _ _ => Nat.zero_le _⟩
theorem str_len (s : List UInt8) : (AVal.str s).cells.length = 1 := rfl
end Go.Abs

namespace Go.Proofs.YtjofjgflcogklaaDoor
open Go Go.Abs Go.Sha Go.Jn
theorem count_v (n : Int) : PV F 11 [.int .i64 n] = some (.int .i64 (count n : Int)) := by
  refine PV_wp (fn := c11) rfl ?_
  dsimp only [c11]
  by_cases h : n < 0 ∨ 8000 < n
  · rw [show count n = 0 from if_pos h]
    replace fx := Dum_eq
    (first | refine go ?_ | exact goC | skip); repeat' (first | refine gP ?_ | exact gPc | refine gN ?_ | exact gNc | (refine gI ?_ ?_ <;> intro hyp <;> first | refine goF ?_ | exact goFc | refine goT ?_ | exact goTc | skip))
    all_goals rfl
  · obtain ⟨k, rfl⟩ : ∃ k : Nat, n = (k : Int) := ⟨n.toNat, by omega⟩
    have hq : Int.tdiv ((k : Int) + 48 - 1) 48 = (((k + 47) / 48 : Nat) : Int) := by
      rw [Int.tdiv_eq_ediv_of_nonneg (by omega)]; omega
    have hm : max (1 : Int) (((k + 47) / 48 : Nat) : Int) = (count (k : Int) : Int) := by
      rw [count_nat k (by omega)]
      split <;> omega
    replace fx := aI @hq (aI @XW_mnxK (aI @mnx_max @hm))
    (first | refine go ?_ | exact goC | skip); repeat' (first | refine gP ?_ | exact gPc | refine gN ?_ | exact gNc | (refine gI ?_ ?_ <;> intro hyp <;> first | refine goF ?_ | exact goFc | refine goT ?_ | exact goTc | skip))
theorem num_drop (s : Bs) {k : Nat} (hk : k < s.length) : num (s.drop k) = (nth s k).toNat + 256 * num (s.drop (k + 1)) := by
  rw [List.drop_eq_getElem_cons hk, num, nth_eq hk]
end Go.Proofs.YtjofjgflcogklaaDoor

namespace Go.Proofs.YtjofjgflcogklaaDoor
open Go Go.Abs Go.Sha Go.Jn
theorem strV_strip (l : List Bs) : stripL (l.map AVal.str) = some (l.map AVal.str) := by
  induction l with
  | nil => rfl
  | cons x l ih => simp only [List.map_cons, stripL, ih, st_str]
def packV (n : Int) (t : Bs) : AVal := if n < 1 ∨ 4096 < n then .tup [.sl [] .nil, .int .i64 1] else if 8000 < t.length then .tup [.sl [] .nil, .int .i64 4] else .tup [.sl ((pack n.toNat t).map AVal.str) .none, .int .i64 0]
def padR (r : Bs) (i : Nat) : Bs := r.take i ++ List.replicate (i - r.length) 0
theorem padR_len (r : Bs) (i : Nat) : (padR r i).length = i := by simp [padR]; omega
theorem padR_lt (r : Bs) {i : Nat} (h : i < r.length) : padR r i ++ [nth r i] = padR r (i + 1) := by
  rw [padR, padR, List.take_succ_eq_append_getElem h, nth_eq h, show i - r.length = 0 by omega, show i + 1 - r.length = 0 by omega]
  simp
theorem padR_ge (r : Bs) {i : Nat} (h : r.length ≤ i) : padR r i ++ [0] = padR r (i + 1) := by
  rw [padR, padR, List.take_of_length_le h, List.take_of_length_le (by omega), show i + 1 - r.length = (i - r.length) + 1 by omega, List.replicate_succ', List.append_assoc]
theorem padR_48 (n k : Nat) (r : Bs) : small n 4 ++ small k 2 ++ small r.length 2 ++ padR r 48 = body n k r := by
  simp only [body, padR, List.append_assoc]
theorem pack_take (n : Nat) (t : Bs) {k : Nat} (hk : k < count t.length) : (pack n t).take (k + 1) = (pack n t).take k ++ [sector n t k] := by
  have hl : k < (pack n t).length := by rw [pack_len]; exact hk
  rw [List.take_succ_eq_append_getElem hl]
  simp [pack]
end Go.Proofs.YtjofjgflcogklaaDoor

namespace Go.Proofs.YtjofjgflcogklaaDoor
open Go Go.Abs Go.Sha Go.Jn
def partC (o : Option Prt) : List AVal := match o with
  | none => [.int .i64 0, .int .i64 0, .int .i64 0, .str [], .bool false]
  | some p => [.int .i64 (p.number : Int), .int .i64 (p.part : Int), .int .i64 (p.left : Int), .str p.pay, .bool true]
def partV (o : Option Prt) : AVal := .agg (partC o)
theorem unpack_none {s : Bs} (h : ¬ (good s = true)) : unpack s = none := by rw [unpack, if_neg h]
theorem unpack_some {s : Bs} (h : good s = true) : unpack s = some (fld s) := by rw [unpack, if_pos h]
theorem take_zero {s : Bs} {a n : Nat} (h : a + n ≤ s.length) : (s.drop a).take n = List.replicate n 0 ↔ ∀ i, a ≤ i → i < a + n → nth s i = 0 := by
  constructor
  · intro e i h1 h2
    have h3 : i - a < ((s.drop a).take n).length := by rw [List.length_take, List.length_drop]; omega
    have h4 : ((s.drop a).take n)[i - a] = s[i] := by
      rw [List.getElem_take, List.getElem_drop]; congr 1; omega
    rw [nth_eq (by omega), ← h4]
    simp [e]
  · intro h0
    refine List.ext_getElem (by rw [List.length_take, List.length_drop, List.length_replicate]; omega) fun i h1 h2 => ?_
    rw [List.length_replicate] at h2
    rw [List.getElem_take, List.getElem_drop, List.getElem_replicate]
    have := h0 (a + i) (by omega) (by omega)
    rwa [nth_eq (by omega)] at this
end Go.Proofs.YtjofjgflcogklaaDoor

namespace Go.Abs
variable {F : Nat → Option AEnt}
theorem w_rfuncC {fid k : Nat} {slots : List Nat} {f : Opd} {vs : List AVal} {h : Heap} {Q : AExit → List AVal → Heap → Prop} {g : Nat} {cap : List AVal} (hf : evOpd vs [] f = .fn g cap)
    (c : CV F g (.yld h.next :: cap) (h.push (.lrec .ready fid k slots vs)) (fun _ h' => afterL h.next vs Q h')) : WP F (.rfunc fid k slots f) vs h Q := by
  obtain ⟨r, h', g, q⟩ := c
  exact w_rfunc hf g q
theorem YV_mono {id : Nat} {asx : List AVal} {h : Heap} {K K' : AVal → Heap → Prop} (c : YV F id asx h K) (hi : ∀ r h', K r h' → K' r h') : YV F id asx h K' := by
  unfold YV at c ⊢
  obtain ⟨n, r, h', e, q⟩ := c
  exact ⟨n, r, h', e, hi _ _ q⟩
theorem beginY_n {id fid k : Nat} {slots : List Nat} {vs vs3 : List AVal} {h : Heap} {body : ACode} {K : AVal → Heap → Prop} (g : h.get id = some (.lrec .ready fid k slots vs3))
    (w : WP F body vs (h.put id (some (.lrec .busy fid k slots vs3))) (fun e _ h => afterY id K e h)) : beginY F id body K .normal vs h := ⟨_, _, _, _, g, w⟩
theorem afterY_n {id fid k : Nat} {slots : List Nat} {vs : List AVal} {h : Heap} {K : AVal → Heap → Prop} (g : h.get id = some (.lrec .busy fid k slots vs))
    (w : K (.bool true) (h.put id (some (.lrec .ready fid k slots vs)))) : afterY id K .normal h := ⟨_, _, _, _, g, w⟩
theorem afterL_n {id fid k : Nat} {slots : List Nat} {vs vs1 : List AVal} {h : Heap} {Q : AExit → List AVal → Heap → Prop} (g : h.get id = some (.lrec .ready fid k slots vs1)) (q : Q .normal vs (h.put id none)) : afterL id vs Q h := by
  unfold afterL; rw [g]; exact q
end Go.Abs
namespace Go.Proofs.YtjofjgflcogklaaDoor
open Go Go.Abs Go.Sha Go.Jn
theorem back_c (b : List UInt8) (hb : b.length ≤ 1000000) {tk : Tok} {H : Heap} {id c : Nat} {I : Nat → Heap → Prop} (h0 : I b.length H) (hbox : ∀ k h, I k h → h.get c = some (.row true 0 false [.sl (b.map byteV) tk]))
    (step : ∀ k h, k < b.length → I (k + 1) h → YV F id [.int .i64 (k : Int), byteV (nth b k)] h (fun v h' => v = .bool true ∧ I k h')) : CV F 73 [.yld id, .ptr c 0] H (fun _ h' => I 0 h') := by
  refine CV_wp (fn := c73) rfl ?_
  dsimp only [c73]
  have g0 := hbox _ _ h0
  replace fx := @g0
  (first | refine go ?_ | exact goC | skip); repeat' (first | refine gP ?_ | exact gPc | refine gN ?_ | exact gNc | (refine gI ?_ ?_ <;> intro hyp <;> first | refine goF ?_ | exact goFc | refine goT ?_ | exact goTc | skip))
  refine w_loop (fun m vs h => ∃ (k : Nat) (x1 x2 : AVal), m = k ∧ k ≤ b.length ∧ vs = [.yld id, .ptr c 0, .int .i64 ((k : Int) - 1), x1, x2] ∧ I k h) b.length
    ⟨b.length, _, _, rfl, by omega, rfl, h0⟩ ?_
  rintro k vs h ⟨_, x1, x2, rfl, hk, rfl, hI⟩
  have g1 := hbox _ _ hI
  cases k with
  | zero =>
    replace fx := Dum_eq
    (first | refine go ?_ | exact goC | skip); repeat' (first | refine gP ?_ | exact gPc | refine gN ?_ | exact gNc | (refine gI ?_ ?_ <;> intro hyp <;> first | refine goF ?_ | exact goFc | refine goT ?_ | exact goTc | skip))
    exact hI
  | succ k =>
    rw [show ((k + 1 : Nat) : Int) - 1 = (k : Int) by omega]
    replace fx := aI @g1 (aI @byte_cells @byte_one)
    (first | refine go ?_ | exact goC | skip); repeat' (first | refine gP ?_ | exact gPc | refine gN ?_ | exact gNc | (refine gI ?_ ?_ <;> intro hyp <;> first | refine goF ?_ | exact goFc | refine goT ?_ | exact goTc | skip))
    refine YV_mono (step k h (by omega) hI) ?_
    rintro v h' ⟨rfl, hI'⟩
    replace fx := Dum_eq
    (first | refine go ?_ | exact goC | skip); repeat' (first | refine gP ?_ | exact gPc | refine gN ?_ | exact gNc | (refine gI ?_ ?_ <;> intro hyp <;> first | refine goF ?_ | exact goFc | refine goT ?_ | exact goTc | skip))
    exact lp_n ⟨_, by omega, k, _, _, rfl, by omega, rfl, hI'⟩
theorem backf_c (h : Heap) (xs : List AVal) (tk : Tok) : CV F 66 [.sl xs tk] h (fun v h' => v = .fn 73 [.ptr h.next 0] ∧ h' = h.push (.row true 0 false [.sl xs tk])) := by
  refine CV_wp (fn := c66) rfl ?_
  dsimp only [c66]
  replace fx := Dum_eq
  (first | refine go ?_ | exact goC | skip); repeat' (first | refine gP ?_ | exact gPc | refine gN ?_ | exact gNc | (refine gI ?_ ?_ <;> intro hyp <;> first | refine goF ?_ | exact goFc | refine goT ?_ | exact goTc | skip))
theorem or256 (m b : Nat) (hm : m < 281474976710656) (hb : b < 256) : binA .or .arith (.int .i64 ((m * 256 : Nat) : Int)) (.int .i64 (b : Int)) = some (.int .i64 ((b + 256 * m : Nat) : Int)) := by
  have e1 : (m * 256 ||| b) = m * 256 + b := by
    have := Nat.shiftLeft_add_eq_or_of_lt (b := b) (i := 8) (by omega) m
    rw [Nat.shiftLeft_eq] at this
    exact this.symm
  have e2 : (BitVec.ofInt 64 ((m * 256 : Nat) : Int) ||| BitVec.ofInt 64 (b : Int)).toNat = m * 256 + b := by
    rw [BitVec.toNat_or, BitVec.ofInt_natCast, BitVec.ofInt_natCast, BitVec.toNat_ofNat, BitVec.toNat_ofNat, Nat.mod_eq_of_lt (by omega), Nat.mod_eq_of_lt (by omega), e1]
  have e3 : IntKind.i64.bits = 64 := rfl
  have e4 : ((m * 256 + b : Nat) : Int) = ((b + 256 * m : Nat) : Int) := by omega
  simp only [binA, intBin, reduceCtorEq, or_self, if_false, if_true]
  show some (AVal.int .i64 (IntKind.i64.wrap ((BitVec.ofInt 64 ((m * 256 : Nat) : Int) ||| BitVec.ofInt 64 (b : Int)).toNat : Int))) = _
  rw [e2, e4, wrap_in64 (by omega) (by omega)]
theorem shl256 (m : Nat) (hm : m < 281474976710656) : binA .shl .arith (.int .i64 (m : Int)) (.int .u64 8) = some (.int .i64 ((m * 256 : Nat) : Int)) := by
  have e3 : IntKind.i64.bits = 64 := rfl
  have h0 : ¬ ((8 : Int) < 0) := by omega
  simp only [binA, shiftA, if_true, or_true, true_or, reduceCtorEq, h0, if_false, e3]
  rw [show (m : Int) * 2 ^ (min (Int.toNat 8) 64) = ((m * 256 : Nat) : Int) by rw [show min (Int.toNat 8) 64 = 8 from rfl]; omega, wrap_in64 (by omega) (by omega)]
theorem num_drop' (s : Bs) {k : Nat} (hk : k < s.length) : (nth s k).toNat + 256 * num (s.drop (k + 1)) = num (s.drop k) := (num_drop s hk).symm
theorem num_lt6 (s : Bs) (hs : s.length ≤ 6) (k : Nat) : num (s.drop k) < 281474976710656 := by
  have := num_lt (s.drop k)
  have h2 : 256 ^ (s.drop k).length ≤ 256 ^ 6 := Nat.pow_le_pow_right (by omega) (by rw [List.length_drop]; omega)
  exact Nat.lt_of_lt_of_le this h2
theorem byteV_eq (b : UInt8) : byteV b = .int .u8 (b.toNat : Int) := rfl
theorem get_c (s : Bs) (hs : s.length ≤ 6) : CV F 49 [.sl (s.map byteV) .none] Heap.empty (fun v _ => v = .int .i64 (num s : Int)) := by
  refine CV_wp (fn := c49) rfl ?_
  dsimp only [c49]
  replace fx := Dum_eq
  (first | refine go ?_ | exact goC | skip); repeat' (first | refine gP ?_ | exact gPc | refine gN ?_ | exact gNc | (refine gI ?_ ?_ <;> intro hyp <;> first | refine goF ?_ | exact goFc | refine goT ?_ | exact goTc | skip))
  refine CV_mono (backf_c _ _ _) ?_
  rintro v h1 ⟨rfl, rfl⟩
  replace fx := Dum_eq
  (first | refine go ?_ | exact goC | skip); repeat' (first | refine gP ?_ | exact gPc | refine gN ?_ | exact gNc | (refine gI ?_ ?_ <;> intro hyp <;> first | refine goF ?_ | exact goFc | refine goT ?_ | exact goTc | skip))
  obtain ⟨H, hH⟩ : ∃ H, H = (Heap.empty.push (Obj.row true (typed 3) false [AVal.int IntKind.i64 0])).push (Obj.row true 0 false [AVal.sl (List.map byteV s) Tok.none]) := ⟨_, rfl⟩
  have hn : H.next = 2 := by rw [hH]; rfl
  have h0 : H.get 0 = some (Obj.row true (typed 3) false [AVal.int IntKind.i64 0]) := by rw [hH]; rfl
  have h1 : H.get 1 = some (Obj.row true 0 false [AVal.sl (List.map byteV s) Tok.none]) := by rw [hH]; rfl
  obtain ⟨V, hV⟩ : ∃ V, V = [AVal.sl (s.map byteV) .none, .int .i64 0, .ptr 0 0, .tup [], .fn 73 [.ptr 1 0], .tup []] := ⟨_, rfl⟩
  rw [← hH, ← hV]
  refine w_rfuncC (by rw [hV]; rfl) (CV_mono (back_c s (by omega) (I := fun k h => h.get 0 = some (.row true (typed 3) false [.int .i64 (num (s.drop k) : Int)]) ∧ h.get 1 = some (.row true 0 false [.sl (s.map byteV) .none]) ∧ h.get 2 = some (.lrec .ready 49 0 [0, 2, 3, 5, 7, 9] V))
    ⟨?_, ?_, ?_⟩ (fun k h g => g.2.1) ?_) ?_)
  · rw [List.drop_length, get_push_ne (by omega)]; exact h0
  · rw [get_push_ne (by omega)]; exact h1
  · exact get_push_eq hn.symm
  · rw [hn]
    rintro k h hk ⟨g0, g1, g2⟩
    refine y_wp g2 rfl rfl rfl rfl ?_
    dsimp only [c49, c49L0]
    rw [hV]
    have hN := num_lt6 s hs (k + 1)
    have hb : (nth s k).toNat < 256 := (nth s k).toNat_lt
    have hnd := num_drop s (k := k) hk
    obtain ⟨M, hM⟩ : ∃ M, M = num (s.drop (k + 1)) := ⟨_, rfl⟩
    rw [← hM] at g0 hN hnd
    have e1 := shl256 M hN
    have e2 := or256 M (nth s k).toNat hN hb
    obtain ⟨M2, hM2⟩ : ∃ M2, M2 = M * 256 := ⟨_, rfl⟩
    rw [← hM2] at e1 e2
    simp only [setPs, List.set_cons_succ, List.set_cons_zero]
    replace fx := Dum_eq
    (first | refine go ?_ | exact goC | skip); repeat' (first | refine gP ?_ | exact gPc | refine gN ?_ | exact gNc | (refine gI ?_ ?_ <;> intro hyp <;> first | refine goF ?_ | exact goFc | refine goT ?_ | exact goTc | skip))
    refine beginY_n (g2.trans (by rw [hV])) ?_
    replace fx := aI @g0 (aI @e1 (aI @e2 @byteV_eq))
    (first | refine go ?_ | exact goC | skip); repeat' (first | refine gP ?_ | exact gPc | refine gN ?_ | exact gNc | (refine gI ?_ ?_ <;> intro hyp <;> first | refine goF ?_ | exact goFc | refine goT ?_ | exact goTc | skip))
    refine afterY_n (by rw [get_put_ne (by omega)]; exact get_put_old g2) ?_
    rw [hnd]
    refine ⟨rfl, ?_, ?_, ?_⟩
    · rw [get_put_ne (by omega)]
      exact get_put_old ((get_put_ne (by omega)).trans g0)
    · rw [get_put_ne (by omega), get_put_ne (by omega), get_put_ne (by omega)]; exact g1
    · exact get_put_old ((get_put_ne (by omega)).trans (get_put_old g2))
  · rw [hn]
    rintro r h' ⟨g0, g1, g2⟩
    refine afterL_n g2 ?_
    rw [hV]
    replace fx := aI @g0 @List.drop_zero.{0}
    (first | refine go ?_ | exact goC | skip); repeat' (first | refine gP ?_ | exact gPc | refine gN ?_ | exact gNc | (refine gI ?_ ?_ <;> intro hyp <;> first | refine goF ?_ | exact goFc | refine goT ?_ | exact goTc | skip))
theorem copy_src {h : Heap} {x off2 k : Nat} {mx : Bool} {sx : Nat} {ax : Bool} {m : List UInt8} (hx : h.get x = some (.row mx sx ax (m.map byteV))) (hk : off2 + k ≤ m.length) : elemsA h 1 (.ref x off2 k 1) = some (((m.drop off2).take k).map byteV) := by
  simp only [elemsA, if_true, hx, List.length_map, Nat.mul_one]
  rw [if_pos hk, List.map_take, List.map_drop]
theorem copy_to {h : Heap} {id off n : Nat} {S : Nat} {ag : Bool} {l : List UInt8} (hg : h.get id = some (.row true S ag (l.map byteV))) (hn : off + n ≤ l.length) {y : AVal} {t : List UInt8} (hl : lenA y = some t.length) (he : elemsA h 1 y = some (t.map byteV)) :
    copyA 1 (.ref id off n 1) y h = some (.int .i64 ((min t.length n : Nat) : Int), h.put id (some (.row true S ag ((putB l off (t.take n)).map byteV)))) := by
  have hc : off + n * 1 ≤ (l.map byteV).length := by rw [List.length_map]; omega
  have ho : (t.map byteV).all AVal.one = true := bytes_all t
  simp only [copyA, hl, he, hg, hc, ho, and_self, if_true]
  have ht : (t.map byteV).take (min t.length n * 1) = (t.take n).map byteV := by
    rw [Nat.mul_one, ← List.map_take, Nat.min_comm, ← List.take_take, List.take_length]
  rw [ht, setCells_mid _ _ _ (by simp; omega)]
  simp only [putB, List.map_append, List.map_take, List.map_drop, List.length_map, List.length_take]
theorem copy_s {h : Heap} {id off n : Nat} {S : Nat} {ag : Bool} {l : List UInt8} (hg : h.get id = some (.row true S ag (l.map byteV))) (hn : off + n ≤ l.length) (t : List UInt8) :
    copyA 1 (.ref id off n 1) (.str t) h = some (.int .i64 ((min t.length n : Nat) : Int), h.put id (some (.row true S ag ((putB l off (t.take n)).map byteV)))) := copy_to hg hn rfl rfl
theorem copy_r {h : Heap} {id off n x off2 k : Nat} {S : Nat} {ag : Bool} {l m : List UInt8} {mx : Bool} {sx : Nat} {ax : Bool} (hg : h.get id = some (.row true S ag (l.map byteV))) (hn : off + n ≤ l.length)
    (hx : h.get x = some (.row mx sx ax (m.map byteV))) (hk : off2 + k ≤ m.length) :
    copyA 1 (.ref id off n 1) (.ref x off2 k 1) h = some (.int .i64 ((min k n : Nat) : Int), h.put id (some (.row true S ag ((putB l off (((m.drop off2).take k).take n)).map byteV)))) := by
  have hl : ((m.drop off2).take k).length = k := by rw [List.length_take, List.length_drop]; omega
  have := copy_to hg hn (y := .ref x off2 k 1) (t := (m.drop off2).take k) (by rw [hl]; rfl) (copy_src hx hk)
  rw [hl] at this
  exact this
theorem putB_set {l : List UInt8} {off k : Nat} {t : List UInt8} (x : UInt8) (hk : t.length = k) (h : off + k < l.length) : (putB l off t).set (off + k) x = putB l off (t ++ [x]) := by
  subst hk
  rw [putB, putB, ← List.append_assoc, List.set_append_right _ _ (by rw [List.length_append, List.length_take]; omega), List.length_append, List.length_take, show off + t.length - (min off l.length + t.length) = 0 by omega,
    List.drop_eq_getElem_cons (show off + t.length < l.length by omega), List.set_cons_zero, List.append_assoc, List.append_assoc]
  simp [List.append_assoc, Nat.add_assoc]
theorem putB_nil (l : List UInt8) (off : Nat) : putB l off [] = l := by simp [putB]
theorem set_one {α : Type} (l : List α) (f : α → AVal) (i : Nat) (x : α) : (l.map f).set i (f x) = (l.set i x).map f := List.map_set.symm
theorem shr256 (m : Nat) : binA .shr .arith (.int .i64 (m : Int)) (.int .u64 8) = some (.int .i64 ((m / 256 : Nat) : Int)) := by
  have e3 : IntKind.i64.bits = 64 := rfl
  have h0 : ¬ ((8 : Int) < 0) := by omega
  have e : (2 : Int) ^ 8 = ((256 : Nat) : Int) := rfl
  simp only [binA, shiftA, if_true, or_true, true_or, reduceCtorEq, h0, if_false, e3]
  rw [show min (Int.toNat 8) 64 = 8 from rfl, e, Int.fdiv_eq_ediv_of_nonneg _ (Int.natCast_nonneg _), ← Int.natCast_ediv]
theorem put_c {h : Heap} {id off n S : Nat} {ag : Bool} {l : List UInt8} (hg : h.get id = some (.row true S ag (l.map byteV))) (hl : off + n ≤ l.length) (hn : n ≤ 100) (m : Nat) (hm : m < 9223372036854775808) :
    CV F 46 [.ref id off n 1, .int .i64 (m : Int)] h (fun _ h' => h'.get id = some (.row true S ag ((putB l off (Jn.small m n)).map byteV)) ∧ Fr (fun j => j = id) h h') := by
  refine CV_wp (fn := c46) rfl ?_
  dsimp only [c46]
  replace fx := Dum_eq
  (first | refine go ?_ | exact goC | skip); repeat' (first | refine gP ?_ | exact gPc | refine gN ?_ | exact gNc | (refine gI ?_ ?_ <;> intro hyp <;> first | refine goF ?_ | exact goFc | refine goT ?_ | exact goTc | skip))
  refine w_loop (fun q vs h' => ∃ (k : Nat) (x1 x2 : AVal), q = n - k ∧ k ≤ n ∧ vs = [.ref id off n 1, .int .i64 ((m / 256 ^ k : Nat) : Int), x1, .int .i64 (n : Int), .int .i64 (k : Int), x2] ∧ h'.get id = some (.row true S ag ((putB l off (Jn.small m k)).map byteV)) ∧ Fr (fun j => j = id) h h') n
    ⟨0, _, _, rfl, by omega, by rw [Nat.pow_zero, Nat.div_one]; rfl, by rw [show Jn.small m 0 = [] from rfl, putB_nil]; exact hg, Fr.refl _ _⟩ ?_
  rintro q vs h' ⟨k, x1, x2, rfl, hk, rfl, g, f⟩
  have hle : m / 256 ^ k ≤ m := Nat.div_le_self _ _
  have hq1 : m / 256 ^ (k + 1) = m / 256 ^ k / 256 := by rw [Nat.pow_succ, ← Nat.div_div_eq_div_mul]
  have ss := small_succ m k
  have sl := small_len m k
  obtain ⟨q, hq⟩ : ∃ q, q = m / 256 ^ k := ⟨_, rfl⟩
  rw [← hq] at hle hq1 ss ⊢
  clear hq
  by_cases hkn : k < n
  · have hpl : (putB l off (Jn.small m k)).length = l.length := putB_len _ (by rw [sl]; omega)
    have e3 : toIntA .u8 (.int .i64 (q : Int)) = some (byteV (UInt8.ofNat q)) := toU8 _ _
    have sh := shr256 q
    obtain ⟨r, hr⟩ : ∃ r, r = q / 256 := ⟨_, rfl⟩
    rw [← hr] at sh hq1
    clear hr
    replace fx := aI @g (aI @e3 (aI @sh (aI @hpl (aI @byte_cells @byte_one))))
    (first | refine go ?_ | exact goC | skip); repeat' (first | refine gP ?_ | exact gPc | refine gN ?_ | exact gNc | (refine gI ?_ ?_ <;> intro hyp <;> first | refine goF ?_ | exact goFc | refine goT ?_ | exact goTc | skip))
    refine lp_n ⟨_, by omega, k + 1, _, _, rfl, by omega, by rw [hq1]; push_cast; rfl, ?_, f.put (.inl rfl) _⟩
    rw [get_put_old g, ss, Nat.mul_one, ← putB_set _ sl (by omega), ← set_one]
  · have e : k = n := by omega
    subst e
    replace fx := Dum_eq
    (first | refine go ?_ | exact goC | skip); repeat' (first | refine gP ?_ | exact gPc | refine gN ?_ | exact gNc | (refine gI ?_ ?_ <;> intro hyp <;> first | refine goF ?_ | exact goFc | refine goT ?_ | exact goTc | skip))
    exact ⟨g, f⟩
theorem equal_v (a b : Bs) : PV F 50 [.sl (a.map byteV) .none, .sl (b.map byteV) .none] = some (.bool (decide (a = b))) := by
  refine PV_wp (fn := c50) rfl ?_
  dsimp only [c50]
  replace fx := Dum_eq
  (first | refine go ?_ | exact goC | skip); repeat' (first | refine gP ?_ | exact gPc | refine gN ?_ | exact gNc | (refine gI ?_ ?_ <;> intro hyp <;> first | refine goF ?_ | exact goFc | refine goT ?_ | exact goTc | skip))
end Go.Proofs.YtjofjgflcogklaaDoor

namespace Go.Abs
theorem Fr.fresh {h h1 h2 : Heap} {a : Nat} (f : Fr (fun _ => False) h h1) (g : Fr (fun j => j = a) h1 h2) (ha : h.next ≤ a) : Fr (fun _ => False) h h2 :=
  ⟨Nat.le_trans f.1 g.1, fun j hj _ => by
    have := f.1
    rw [g.2 j (by omega) (by intro e; omega)]; exact f.2 j hj (fun q => q)⟩
theorem push_eqs {h hp : Heap} {o : Obj} (e : hp = h.push o) {j : Nat} {x : Obj} (g : h.get j = some x) : hp.get j = some x := by rw [e]; exact get_push_old g
end Go.Abs
namespace Go.Proofs.YtjofjgflcogklaaDoor
open Go Go.Abs Go.Sha Go.Jn
theorem pur_sl (h : Heap) (xs : List AVal) (tk : Tok) : ∃ t', purify h (.sl xs tk) = some (.sl xs t') := by
  cases tk with
  | none => exact ⟨_, pu_none h xs⟩
  | nil => exact ⟨_, pu_nil h xs⟩
  | own i s => exact ⟨_, pu_own h xs i s⟩
  | full => exact ⟨.none, by simp only [purify]⟩
theorem purI {h : Heap} {x : AVal} {k : IntKind} {n : Int} (e : purify h x = some (.int k n)) : x = .int k n := by
  cases x with
  | int k' n' => rw [pu_int] at e; exact Option.some.inj e
  | sl xs t => obtain ⟨t', e'⟩ := pur_sl h xs t; rw [e'] at e; simp at e
  | ref => rw [pu_ref] at e; simp at e
  | agg cs => rw [pu_agg] at e; simp at e
  | tup cs => rw [pu_tup] at e; simp at e
  | fn f cs => simp only [purify, Option.map_eq_some_iff] at e; obtain ⟨_, _, e⟩ := e; simp at e
  | _ => simp [purify] at e
theorem purB {h : Heap} : ∀ {cs : List AVal} {l : List UInt8}, purifyL h cs = some (l.map byteV) → cs = l.map byteV
  | [], [], _ => rfl
  | [], _ :: _, e => by simp [purifyL] at e
  | x :: cs, l, e => by
    rw [puL_cons] at e
    cases hx : purify h x with
    | none => rw [hx] at e; simp [sc] at e
    | some x' =>
      cases hc : purifyL h cs with
      | none => rw [hx, hc] at e; simp [sc] at e
      | some c' =>
        rw [hx, hc] at e
        simp only [sc, Option.some.injEq] at e
        cases l with
        | nil => simp at e
        | cons b l =>
          simp only [List.map_cons, List.cons.injEq] at e
          obtain ⟨rfl, rfl⟩ := e
          rw [purI hx, purB hc]; rfl
theorem hash_cv (b : List UInt8) (hl : b.length ≤ 900000) : CV F 47 [.sl (b.map byteV) .none] Heap.empty (fun v _ => v = .agg ((sum b).map byteV)) := by
  have e := hash_v b hl
  unfold PV at e
  split at e
  · rename_i r h' hg
    refine ⟨r, h', of_GV hg, ?_⟩
    cases r with
    | int k' n' => rw [pu_int] at e; simp at e
    | sl xs t => obtain ⟨t', e'⟩ := pur_sl h' xs t; rw [e'] at e; simp at e
    | ref => rw [pu_ref] at e; simp at e
    | agg cs =>
      rw [pu_agg, Option.map_eq_some_iff] at e
      obtain ⟨c, hc, e⟩ := e
      simp only [AVal.agg.injEq] at e
      subst e
      rw [purB hc]
    | tup cs => rw [pu_tup] at e; simp at e
    | fn f cs => simp only [purify, Option.map_eq_some_iff] at e; obtain ⟨_, _, e⟩ := e; simp at e
    | _ => simp [purify] at e
  · simp at e
theorem parts_c (n : Int) (t : Bs) (h : Heap) : CV F 27 [.int .i64 n, .str t] h (fun v h' => v = .fn 45 [.ptr (h.next + 1) 0, .ptr h.next 0] ∧ h' = (h.push (.row true 0 false [.int .i64 n])).push (.row true 0 false [.str t])) := by
  refine CV_wp (fn := c27) rfl ?_
  dsimp only [c27]
  replace fx := Dum_eq
  (first | refine go ?_ | exact goC | skip); repeat' (first | refine gP ?_ | exact gPc | refine gN ?_ | exact gNc | (refine gI ?_ ?_ <;> intro hyp <;> first | refine goF ?_ | exact goFc | refine goT ?_ | exact goTc | skip))
def BR (h : Heap) (id : Nat) (l : List UInt8) : Prop := ∃ S ag, h.get id = some (.row true S ag (l.map byteV))
theorem zrow (n : Nat) (hn : n = 64 ∨ n = 32) : (List.replicate n (AVal.int .u8 0)) = (List.replicate n (0 : UInt8)).map byteV := by rw [List.map_replicate]; rfl
theorem putB_app (a : List UInt8) (m : Nat) (t : List UInt8) (h : t.length ≤ m) : putB (a ++ List.replicate m 0) a.length t = (a ++ t) ++ List.replicate (m - t.length) 0 := by
  rw [putB, List.take_left' rfl, List.append_assoc]
  congr 2
  rw [← List.drop_drop, List.drop_left' rfl, List.drop_replicate]
theorem sec_steps (N k : Nat) (rest : Bs) (b1 b2 b3 b4 : List UInt8) (hb1 : b1 = putB (List.replicate 64 0) 0 (Jn.small N 4)) (hb2 : b2 = putB b1 4 (Jn.small k 2)) (hb3 : b3 = putB b2 6 (Jn.small rest.length 2)) (hb4 : b4 = putB b3 8 (rest.take 48)) :
    b1.length = 64 ∧ b2.length = 64 ∧ b3.length = 64 ∧ b4.length = 64 ∧ b4.take 56 = body N k rest ∧ ∀ s : List UInt8, s.length = 8 → putB b4 56 s = body N k rest ++ s := by
  have s4 := small_len N 4
  have s2 := small_len k 2
  have s3 := small_len rest.length 2
  have e1 : b1 = Jn.small N 4 ++ List.replicate 60 0 := by
    have := putB_app [] 64 (Jn.small N 4) (by omega)
    rw [s4] at this; rw [hb1]; exact this
  have e2 : b2 = (Jn.small N 4 ++ Jn.small k 2) ++ List.replicate 58 0 := by
    have := putB_app (Jn.small N 4) 60 (Jn.small k 2) (by omega)
    rw [s4, s2] at this; rw [hb2, e1]; exact this
  have e3 : b3 = (Jn.small N 4 ++ Jn.small k 2 ++ Jn.small rest.length 2) ++ List.replicate 56 0 := by
    have := putB_app (Jn.small N 4 ++ Jn.small k 2) 58 (Jn.small rest.length 2) (by omega)
    rw [List.length_append, s4, s2, s3] at this; rw [hb3, e2]; exact this
  have e4 : b4 = body N k rest ++ List.replicate 8 0 := by
    have := putB_app (Jn.small N 4 ++ Jn.small k 2 ++ Jn.small rest.length 2) 56 (rest.take 48) (by rw [List.length_take]; omega)
    rw [List.length_append, List.length_append, s4, s2, s3] at this
    rw [hb4, e3, show (8 : Nat) = 4 + 2 + 2 from rfl, this]
    have e : List.replicate (56 - (rest.take 48).length) (0 : UInt8) = List.replicate (48 - rest.length) 0 ++ List.replicate 8 0 := by
      rw [List.replicate_append_replicate]; congr 1; rw [List.length_take]; omega
    rw [e, body]
    simp only [List.append_assoc]
  have bl := body_len N k rest
  refine ⟨by rw [e1]; simp [s4], by rw [e2]; simp [s4, s2], by rw [e3]; simp [s4, s2, s3], by rw [e4]; simp [bl], by rw [e4, List.take_left' bl], fun s hs => ?_⟩
  have := putB_app (body N k rest) 8 s (by omega)
  rw [bl, hs] at this
  rw [e4, this]; simp
theorem parts1_c (N : Nat) (t : Bs) (hN : N ≤ 4096) (ht : t.length ≤ 8000) {H : Heap} {id c1 c2 : Nat} {I : Nat → Heap → Prop} (h0 : I 0 H)
    (hbox : ∀ k h, I k h → h.get c1 = some (.row true 0 false [.str t]) ∧ h.get c2 = some (.row true 0 false [.int .i64 (N : Int)]))
    (hfr : ∀ k h h', I k h → Fr (fun _ => False) h h' → I k h')
    (step : ∀ k h, k < count t.length → I k h → YV F id [.agg ((sector N t k).map byteV)] h (fun v h' => v = .bool true ∧ I (k + 1) h')) :
    CV F 45 [.yld id, .ptr c1 0, .ptr c2 0] H (fun _ h' => I (count t.length) h') := by
  have hc := count_v t.length
  refine CV_wp (fn := c45) rfl ?_
  dsimp only [c45]
  obtain ⟨g1, g2⟩ := hbox _ _ h0
  replace fx := aI @g1 @hc
  (first | refine go ?_ | exact goC | skip); repeat' (first | refine gP ?_ | exact gPc | refine gN ?_ | exact gNc | (refine gI ?_ ?_ <;> intro hyp <;> first | refine goF ?_ | exact goFc | refine goT ?_ | exact goTc | skip))
  clear g1 g2
  refine w_loop (fun m vs h => ∃ (k : Nat) (x1 x2 x3 x4 x5 x6 : AVal), m = count t.length - k ∧ k ≤ count t.length ∧ vs = [.yld id, .ptr c1 0, .ptr c2 0, x1, x2, x3, x4, .int .i64 (count t.length : Int), .int .i64 (k : Int), x5, x6] ∧ I k h) (count t.length)
    ⟨0, _, _, _, _, _, _, rfl, by omega, rfl, h0⟩ ?_
  rintro m vs h ⟨k, x1, x2, x3, x4, x5, x6, rfl, hk, rfl, hI⟩
  obtain ⟨g1, g2⟩ := hbox _ _ hI
  by_cases hkc : k < count t.length
  · have hb := count_lt t.length (by omega) hkc
    have hcl := count_le t.length
    have T48 : (48 * (k : Int)).toNat = 48 * k := by omega
    obtain ⟨rest, hrest⟩ : ∃ rest, rest = t.drop (48 * k) := ⟨_, rfl⟩
    have hrl : rest.length ≤ 8000 := by rw [hrest, List.length_drop]; omega
    have hsec := sec_steps N k rest
    obtain ⟨b1, hb1⟩ : ∃ b, b = putB (List.replicate 64 0) 0 (Jn.small N 4) := ⟨_, rfl⟩
    obtain ⟨b2, hb2⟩ : ∃ b, b = putB b1 4 (Jn.small k 2) := ⟨_, rfl⟩
    obtain ⟨b3, hb3⟩ : ∃ b, b = putB b2 6 (Jn.small rest.length 2) := ⟨_, rfl⟩
    obtain ⟨b4, hb4⟩ : ∃ b, b = putB b3 8 (rest.take 48) := ⟨_, rfl⟩
    obtain ⟨hs1, hs2, hs3, hs4, hs5, hs6⟩ := hsec b1 b2 b3 b4 hb1 hb2 hb3 hb4
    obtain ⟨z, hz⟩ : ∃ z, z = List.replicate 64 (0 : UInt8) := ⟨_, rfl⟩
    obtain ⟨y, hy⟩ : ∃ y, y = List.replicate 32 (0 : UInt8) := ⟨_, rfl⟩
    have zl : z.length = 64 := by rw [hz]; simp
    have yl : y.length = 32 := by rw [hy]; simp
    have zo := bytes_all z
    have yo := bytes_all y
    rw [zrow 64 (.inl rfl), zrow 32 (.inr rfl), ← hz, ← hy]
    rw [← hz] at hb1
    have l1 := get_lt g1
    have l2 := get_lt g2
    replace fx := aI @g1 (aI @g2 (aI @T48 (aI @aR (aI @bR (aI @zl @zo)))))
    (first | refine go ?_ | exact goC | skip); repeat' (first | refine gP ?_ | exact gPc | refine gN ?_ | exact gNc | (refine gI ?_ ?_ <;> intro hyp <;> first | refine goF ?_ | exact goFc | refine goT ?_ | exact goTc | skip))
    refine CV_mono (put_c (l := z) (off := 0) (n := 4) (get_push_eq rfl) (by omega) (by omega) N (by omega)) ?_
    rintro v h1 ⟨q1, f1⟩
    rw [← hb1] at q1
    rw [← hrest]
    have F1 := Fr.fresh (Fr.push (Fr.refl _ h) _) f1 (Nat.le_refl _)
    obtain ⟨a, ha⟩ : ∃ a, a = h.next := ⟨_, rfl⟩
    rw [← ha] at q1 ⊢
    replace fx := aI @q1 (aI @aR (aI @bR @hs1))
    (first | refine go ?_ | exact goC | skip); repeat' (first | refine gP ?_ | exact gPc | refine gN ?_ | exact gNc | (refine gI ?_ ?_ <;> intro hyp <;> first | refine goF ?_ | exact goFc | refine goT ?_ | exact goTc | skip))
    refine CV_mono (put_c q1 (by omega) (by omega) k (by omega)) ?_
    rintro v h2 ⟨q2, f2⟩
    have F2 := Fr.fresh F1 f2 (by omega)
    rw [← hb2] at q2
    replace fx := aI @q2 (aI @aR (aI @bR @hs2))
    (first | refine go ?_ | exact goC | skip); repeat' (first | refine gP ?_ | exact gPc | refine gN ?_ | exact gNc | (refine gI ?_ ?_ <;> intro hyp <;> first | refine goF ?_ | exact goFc | refine goT ?_ | exact goTc | skip))
    refine CV_mono (put_c q2 (by omega) (by omega) rest.length (by omega)) ?_
    rintro v h3 ⟨q3, f3⟩
    have F3 := Fr.fresh F2 f3 (by omega)
    rw [← hb3] at q3
    have cp := copy_s q3 (show 8 + 48 ≤ b3.length by omega) rest
    rw [← hb4] at cp
    replace fx := aI @q3 (aI @aR (aI @bR (aI @hs3 @cp)))
    (first | refine go ?_ | exact goC | skip); repeat' (first | refine gP ?_ | exact gPc | refine gN ?_ | exact gNc | (refine gI ?_ ?_ <;> intro hyp <;> first | refine goF ?_ | exact goFc | refine goT ?_ | exact goTc | skip))
    have q4 := get_put_old (o := some (Obj.row true (typed 61) true (b4.map byteV))) q3
    obtain ⟨h4, hh4⟩ : ∃ h4, h4 = h3.put a (some (Obj.row true (typed 61) true (b4.map byteV))) := ⟨_, rfl⟩
    have F4 : Fr (fun _ => False) h h4 := by rw [hh4]; exact F3.put (.inr (by omega)) _
    rw [← hh4] at q4 ⊢
    obtain ⟨r, hh, gv, rfl⟩ := hash_cv (body N k rest) (by rw [body_len]; omega)
    refine ⟨[.sl ((body N k rest).map byteV) .none], by rw [pu_bytes q4 (by decide) (by omega), List.drop_zero, hs5]; rfl, _, _, GV_of gv, scal_bytes _, ?_⟩
    have sl := sum_len (body N k rest)
    have so := bytes_all (sum (body N k rest))
    obtain ⟨S, hS⟩ : ∃ S, S = sum (body N k rest) := ⟨_, rfl⟩
    rw [← hS] at sl so ⊢
    have st := set_bytes y S (by rw [yl, sl])
    have q5 : ∀ o, (h4.push o).get a = _ := fun o => get_push_old q4
    replace fx := aI @q4 (aI @q5 (aI @aR (aI @bR (aI @hs4 (aI @yl (aI @yo (aI @sl (aI @so @st))))))))
    (first | refine go ?_ | exact goC | skip); repeat' (first | refine gP ?_ | exact gPc | refine gN ?_ | exact gNc | (refine gI ?_ ?_ <;> intro hyp <;> first | refine goF ?_ | exact goFc | refine goT ?_ | exact goTc | skip))
    have cp2 := copy_r (q5 (.row true (typed 101) true (S.map byteV))) (show 56 + 8 ≤ b4.length by omega) (get_push_eq rfl) (show 0 + 32 ≤ S.length by omega)
    have hsec2 : putB b4 56 (((S.drop 0).take 32).take 8) = sector N t k := by
      rw [List.drop_zero, List.take_of_length_le (show S.length ≤ 32 by omega), hs6 _ (by rw [List.length_take]; omega), hS, sector, ← hrest]; rfl
    rw [hsec2] at cp2
    have slen := sector_len N t k
    obtain ⟨sec, hsc⟩ : ∃ sec, sec = sector N t k := ⟨_, rfl⟩
    have st1 := step k
    rw [← hsc] at cp2 slen st1
    have stk : (sec.map byteV).take 64 = sec.map byteV := List.take_of_length_le (by rw [List.length_map, slen]; omega)
    have q6 : ∀ o o', ((h4.push o).put a o').get a = o' := fun o o' => get_put_old (q5 o)
    replace fx := aI @cp2 (aI @q6 (aI @slen @stk))
    (first | refine go ?_ | exact goC | skip); repeat' (first | refine gP ?_ | exact gPc | refine gN ?_ | exact gNc | (refine gI ?_ ?_ <;> intro hyp <;> first | refine goF ?_ | exact goFc | refine goT ?_ | exact goTc | skip))
    refine YV_mono (st1 _ hkc (hfr _ _ _ hI ((F4.push _).put (.inr (by omega)) _))) ?_
    rintro v h' ⟨rfl, hI'⟩
    replace fx := Dum_eq
    (first | refine go ?_ | exact goC | skip); repeat' (first | refine gP ?_ | exact gPc | refine gN ?_ | exact gNc | (refine gI ?_ ?_ <;> intro hyp <;> first | refine goF ?_ | exact goFc | refine goT ?_ | exact goTc | skip))
    exact lp_n ⟨_, by omega, k + 1, _, _, _, _, _, _, rfl, by omega, by push_cast; rfl, hI'⟩
  · have e : k = count t.length := by omega
    subst e
    replace fx := Dum_eq
    (first | refine go ?_ | exact goC | skip); repeat' (first | refine gP ?_ | exact gPc | refine gN ?_ | exact gNc | (refine gI ?_ ?_ <;> intro hyp <;> first | refine goF ?_ | exact goFc | refine goT ?_ | exact goTc | skip))
    exact hI
theorem pack_c (n : Int) (t : Bs) (ht : t.length ≤ 100000) : CV F 6 [.int .i64 n, .str t] Heap.empty (fun v h' => purify h' v = some (packV n t)) := by
  refine CV_wp (fn := c6) rfl ?_
  dsimp only [c6]
  unfold packV
  by_cases h1 : n < 1 ∨ 4096 < n
  · rw [if_pos h1]
    replace fx := Dum_eq
    (first | refine go ?_ | exact goC | skip); repeat' (first | refine gP ?_ | exact gPc | refine gN ?_ | exact gNc | (refine gI ?_ ?_ <;> intro hyp <;> first | refine goF ?_ | exact goFc | refine goT ?_ | exact goTc | skip))
  · rw [if_neg h1]
    by_cases h2 : 8000 < t.length
    · rw [if_pos h2]
      replace fx := Dum_eq
      (first | refine go ?_ | exact goC | skip); repeat' (first | refine gP ?_ | exact gPc | refine gN ?_ | exact gNc | (refine gI ?_ ?_ <;> intro hyp <;> first | refine goF ?_ | exact goFc | refine goT ?_ | exact goTc | skip))
    · rw [if_neg h2]
      obtain ⟨N, rfl⟩ : ∃ N : Nat, n = (N : Int) := ⟨n.toNat, by omega⟩
      replace fx := Dum_eq
      (first | refine go ?_ | exact goC | skip); repeat' (first | refine gP ?_ | exact gPc | refine gN ?_ | exact gNc | (refine gI ?_ ?_ <;> intro hyp <;> first | refine goF ?_ | exact goFc | refine goT ?_ | exact goTc | skip))
      refine CV_mono (parts_c _ _ _) ?_
      rintro v h1 ⟨rfl, rfl⟩
      replace fx := Dum_eq
      (first | refine go ?_ | exact goC | skip); repeat' (first | refine gP ?_ | exact gPc | refine gN ?_ | exact gNc | (refine gI ?_ ?_ <;> intro hyp <;> first | refine goF ?_ | exact goFc | refine goT ?_ | exact goTc | skip))
      obtain ⟨V, hV⟩ : ∃ V, V = [AVal.int .i64 (N : Int), .str t, .sl [] .nil, .int .i64 0, .ptr 0 0, .tup [], .bool (decide ((4096 : Int) < N)), .bool (decide ((8000 : Int) < t.length)), .fn 45 [.ptr 2 0, .ptr 1 0], .tup []] := ⟨_, rfl⟩
      obtain ⟨H, hH⟩ : ∃ H, H = (((Heap.empty.push (Obj.row true (typed 23) false [AVal.sl [] Tok.nil])).push (Obj.row true 0 false [AVal.int IntKind.i64 (N : Int)])).push (Obj.row true 0 false [AVal.str t])) := ⟨_, rfl⟩
      have hn : H.next = 3 := by rw [hH]; rfl
      have e0 : H.get 0 = some (Obj.row true (typed 23) false [AVal.sl [] Tok.nil]) := by rw [hH]; rfl
      have e1 : H.get 1 = some (Obj.row true 0 false [AVal.int IntKind.i64 (N : Int)]) := by rw [hH]; rfl
      have e2 : H.get 2 = some (Obj.row true 0 false [AVal.str t]) := by rw [hH]; rfl
      rw [← hH, ← hV]
      have hcl := count_le t.length
      refine w_rfuncC (by rw [hV]; rfl) (CV_mono (parts1_c N t (by omega) (by omega) (I := fun k h => (∃ tk, h.get 0 = some (.row true (typed 23) false [.sl (((pack N t).take k).map AVal.str) tk]) ∧ Gr h 9 1 ((pack N t).take k) tk) ∧ h.get 1 = some (Obj.row true 0 false [AVal.int IntKind.i64 (N : Int)]) ∧ h.get 2 = some (Obj.row true 0 false [AVal.str t]) ∧ h.get 3 = some (.lrec .ready 6 0 [0, 1, 4, 5, 6, 7, 8, 15, 21, 22] V))
        ⟨⟨_, ?_, Gr.nil _ _ _⟩, ?_, ?_, ?_⟩ (fun k h g => ⟨g.2.2.1, g.2.1⟩) ?_ ?_) ?_)
      · rw [get_push_ne (by omega)]; exact e0
      · rw [get_push_ne (by omega)]; exact e1
      · rw [get_push_ne (by omega)]; exact e2
      · exact get_push_eq hn.symm
      · rintro k h h' ⟨⟨tk, g0, G⟩, g1, g2, g3⟩ f
        exact ⟨⟨tk, f.get g0 (fun q => q), G.fr f (fun _ _ _ q => q)⟩, f.get g1 (fun q => q), f.get g2 (fun q => q), f.get g3 (fun q => q)⟩
      · rw [hn]
        rintro k h hk ⟨⟨tk, g0, G⟩, g1, g2, g3⟩
        refine y_wp g3 rfl rfl rfl rfl ?_
        dsimp only [c6, c6L0]
        rw [hV]
        simp only [setPs, List.set_cons_succ, List.set_cons_zero]
        have hz := zrow 64 (.inl rfl)
        obtain ⟨z, hzz⟩ : ∃ z, z = List.replicate 64 (0 : UInt8) := ⟨_, rfl⟩
        have zl : z.length = 64 := by rw [hzz]; simp
        have zo := bytes_all z
        have slen := sector_len N t k
        have hpt := pack_take N t hk
        obtain ⟨sec, hsc⟩ : ∃ sec, sec = sector N t k := ⟨_, rfl⟩
        rw [← hsc] at slen hpt ⊢
        have so := bytes_all sec
        have sst := set_bytes z sec (by rw [zl, slen])
        rw [hz, ← hzz]
        have l3 := get_lt g3
        replace fx := aI @zl (aI @zo (aI @so (aI @slen @sst)))
        (first | refine go ?_ | exact goC | skip); repeat' (first | refine gP ?_ | exact gPc | refine gN ?_ | exact gNc | (refine gI ?_ ?_ <;> intro hyp <;> first | refine goF ?_ | exact goFc | refine goT ?_ | exact goTc | skip))
        refine beginY_n ((get_push_ne (by omega)).trans (g3.trans (by rw [hV]))) ?_
        rw [put_push_ne _ (by omega)]
        obtain ⟨h2, hh2⟩ : ∃ h2, h2 = h.put 3 (some (.lrec .busy 6 0 [0, 1, 4, 5, 6, 7, 8, 15, 21, 22] V)) := ⟨_, rfl⟩
        have n2 : h2.next = h.next := by rw [hh2, put_next]
        have k0 : h2.get 0 = h.get 0 := by rw [hh2, get_put_ne (by omega)]
        rw [g0] at k0
        have k1 : h2.get 1 = h.get 1 := by rw [hh2, get_put_ne (by omega)]
        rw [g1] at k1
        have k2 : h2.get 2 = h.get 2 := by rw [hh2, get_put_ne (by omega)]
        rw [g2] at k2
        have k3 := get_put_old (o := some (.lrec .busy 6 0 [0, 1, 4, 5, 6, 7, 8, 15, 21, 22] V)) g3
        rw [← hh2] at k3
        have G2 : Gr h2 9 1 ((pack N t).take k) tk := by
          rcases G with G | ⟨i, e, G⟩
          · exact .inl G
          · exact .inr ⟨i, e, by rw [hh2, get_put_ne (by rintro rfl; rw [g3] at G; simp at G)]; exact G⟩
        rw [← hV, ← hh2, ← n2]
        clear hh2 g0 g1 g2 g3 G
        have T : sec.take 64 = sec := List.take_of_length_le (by omega)
        have ls : ∀ (x : Bs) H, litA 0 9 1 1 false [.str []] (some [.str x]) H = some (.sl ([x].map AVal.str) .none, H) := fun x H => lit_none rfl rfl rfl rfl
        have kr : ∀ o, (h2.push o).get h2.next = some o := fun o => get_push_eq rfl
        have l3' : 3 < h2.next := by omega
        replace fx := aI @k0 (aI @kr (aI @aR (aI @bR (aI @slen (aI @T @ls)))))
        (first | refine go ?_ | exact goC | skip); repeat' (first | refine gP ?_ | exact gPc | refine gN ?_ | exact gNc | (refine gI ?_ ?_ <;> intro hyp <;> first | refine goF ?_ | exact goFc | refine goT ?_ | exact goTc | skip))
        obtain ⟨hp, hhp⟩ : ∃ hp, hp = h2.push (Obj.row true (typed 61) true (sec.map byteV)) := ⟨_, rfl⟩
        have p0 := push_eqs hhp k0
        have p1 := push_eqs hhp k1
        have p2 := push_eqs hhp k2
        have p3 := push_eqs hhp k3
        have Gp : Gr hp 9 1 ((pack N t).take k) tk := G2.fr (S := fun _ => False) (by rw [hhp]; exact (Fr.refl _ _).push _) (fun _ _ _ q => q)
        rw [← hhp]
        clear hhp
        have lp3 := get_lt p3
        refine append_F (f := AVal.str) ((pack N t).take k) [sec] str_len (fun x => rfl) (fun x => rfl) rfl (elems_sl (l := [_]) str_len) Gp.toF (by rw [List.length_take]; simp; omega) (by omega) (by omega) (by omega) ?_
        intro h6 tk6 G6 n6 r6 o6
        rw [← hpt] at G6 ⊢
        have q0 := r6 _ _ _ _ _ p0
        have q1 := r6 _ _ _ _ _ p1
        have q2 := r6 _ _ _ _ _ p2
        have q3 : h6.get 3 = hp.get 3 := o6 3 lp3 (by
          rintro i s e rfl
          rcases Gp with ⟨_, e' | e'⟩ | ⟨j, e', g⟩
          · rw [e'] at e; simp at e
          · rw [e'] at e; simp at e
          · rw [e'] at e; simp only [Tok.own.injEq] at e; rw [e.1, p3] at g; simp at g)
        rw [p3] at q3
        replace fx := @q0
        (first | refine go ?_ | exact goC | skip); repeat' (first | refine gP ?_ | exact gPc | refine gN ?_ | exact gNc | (refine gI ?_ ?_ <;> intro hyp <;> first | refine goF ?_ | exact goFc | refine goT ?_ | exact goTc | skip))
        refine afterY_n ((get_put_ne (by omega)).trans q3) ?_
        refine ⟨rfl, ⟨tk6, ?_, ?_⟩, ?_, ?_, ?_⟩
        · rw [get_put_ne (by omega)]; exact get_put_old q0
        · rcases G6.1 with G6 | ⟨i, e, G6⟩
          · exact .inl G6
          · exact .inr ⟨i, e, by rw [get_put_ne (by rintro rfl; rw [q3] at G6; simp at G6), get_put_ne (by rintro rfl; rw [q0] at G6; simp at G6)]; exact G6⟩
        · rw [get_put_ne (by omega), get_put_ne (by omega)]; exact q1
        · rw [get_put_ne (by omega), get_put_ne (by omega)]; exact q2
        · exact get_put_old ((get_put_ne (by omega)).trans q3)
      · rw [hn]
        rintro r h' ⟨⟨tk, g0, G⟩, g1, g2, g3⟩
        refine afterL_n g3 ?_
        rw [hV]
        have ep : (pack N t).take (count t.length) = pack N t := List.take_of_length_le (by rw [pack_len]; omega)
        rw [ep] at g0
        replace fx := aI @g0 @get_put_ne
        (first | refine go ?_ | exact goC | skip); repeat' (first | refine gP ?_ | exact gPc | refine gN ?_ | exact gNc | (refine gI ?_ ?_ <;> intro hyp <;> first | refine goF ?_ | exact goFc | refine goT ?_ | exact goTc | skip))
        rw [ep] at G
        rcases G with ⟨e, _⟩ | ⟨i, rfl, _⟩
        · have e1 := congrArg List.length e
          rw [pack_len, List.length_nil] at e1
          have := count_pos t.length (by omega)
          omega
        · rfl
end Go.Proofs.YtjofjgflcogklaaDoor

namespace Go.Abs
variable {F : Nat → Option AEnt}
theorem pu_bytes2 {l : List UInt8} {h : Heap} {id off n : Nat} {mu : Bool} {S : Nat} {ag : Bool} (g : h.get id = some (.row mu S ag (l.map byteV))) (hS : S ≠ 1 ∨ ag = false) (hl : off + n ≤ l.length) : purify h (.ref id off n 1) = some (.sl (((l.drop off).take n).map byteV) .none) := by
  by_cases h1 : S = 1
  · subst h1
    have ha : ag = false := by rcases hS with q | q <;> simp_all
    subst ha
    rw [pu_ref]
    have hr : readRef h id off n 1 = some (((l.drop off).take n).map byteV) := by
      unfold readRef
      simp only [g]
      rw [if_pos ⟨.inl trivial, by rw [List.length_map]; omega⟩]
      simp only [strip_bytes, Bool.false_and]
      have hc := chunkm (f := byteV) (sz := 1) byte_len false (fun x => rfl) ((l.drop off).take n) (((l.drop off).drop n).map byteV)
      have hn : ((l.drop off).take n).length = n := by rw [List.length_take, List.length_drop]; omega
      rw [hn] at hc
      have e : (l.map byteV).drop off = flat (((l.drop off).take n).map byteV) ++ ((l.drop off).drop n).map byteV := by
        rw [flat_byte, ← List.map_append, List.take_append_drop, List.map_drop]
      rw [e]; exact hc
    rw [hr]; rfl
  · exact pu_bytes g h1 hl
theorem lend1 {f : Nat} {h : Heap} {id off n S : Nat} {mu ag : Bool} {l : List UInt8} {r : AVal} {K : AVal → Prop} (g : h.get id = some (.row mu S ag (l.map byteV))) (hS : S ≠ 1 ∨ ag = false) (hl : off + n ≤ l.length)
    (c : CV F f [.sl (((l.drop off).take n).map byteV) .none] Heap.empty (fun v _ => v = r)) (hsc : scal r = true) (k : K r) :
    ∃ asx, sc (purify h (.ref id off n 1)) (some []) = some asx ∧ ∃ r h', GV F f asx Heap.empty = some (r, h') ∧ scal r = true ∧ K r := by
  obtain ⟨v, h', c, rfl⟩ := c
  exact ⟨[_], by rw [pu_bytes2 g hS hl]; rfl, _, _, GV_of c, hsc, k⟩
theorem lend2 {f : Nat} {h : Heap} {id off n S id2 off2 n2 S2 : Nat} {mu ag mu2 ag2 : Bool} {l l2 : List UInt8} {r : AVal} {K : AVal → Prop} (g : h.get id = some (.row mu S ag (l.map byteV))) (hS : S ≠ 1 ∨ ag = false) (hl : off + n ≤ l.length)
    (g2 : h.get id2 = some (.row mu2 S2 ag2 (l2.map byteV))) (hS2 : S2 ≠ 1 ∨ ag2 = false) (hl2 : off2 + n2 ≤ l2.length)
    (c : CV F f [.sl (((l.drop off).take n).map byteV) .none, .sl (((l2.drop off2).take n2).map byteV) .none] Heap.empty (fun v _ => v = r)) (hsc : scal r = true) (k : K r) :
    ∃ asx, sc (purify h (.ref id off n 1)) (sc (purify h (.ref id2 off2 n2 1)) (some [])) = some asx ∧ ∃ r h', GV F f asx Heap.empty = some (r, h') ∧ scal r = true ∧ K r := by
  obtain ⟨v, h', c, rfl⟩ := c
  exact ⟨[_, _], by rw [pu_bytes2 g hS hl, pu_bytes2 g2 hS2 hl2]; rfl, _, _, GV_of c, hsc, k⟩
end Go.Abs
namespace Go.Proofs.YtjofjgflcogklaaDoor
open Go Go.Abs Go.Sha Go.Jn
theorem pack_v (n : Int) (t : Bs) (ht : t.length ≤ 100000) : PV F 6 [.int .i64 n, .str t] = some (packV n t) := by
  obtain ⟨r, h', g, e⟩ := pack_c n t ht
  exact PV_of g e
theorem equal_cv (a b : Bs) : CV F 50 [.sl (a.map byteV) .none, .sl (b.map byteV) .none] Heap.empty (fun v _ => v = .bool (decide (a = b))) := by
  refine CV_wp (fn := c50) rfl ?_
  dsimp only [c50]
  replace fx := Dum_eq
  (first | refine go ?_ | exact goC | skip); repeat' (first | refine gP ?_ | exact gPc | refine gN ?_ | exact gNc | (refine gI ?_ ?_ <;> intro hyp <;> first | refine goF ?_ | exact goFc | refine goT ?_ | exact goTc | skip))
theorem checked_iff (s : Bs) (h : s.length = 64) : checked (s.take 56) = s ↔ (sum (s.take 56)).take 8 = s.drop 56 := by
  have e : s = s.take 56 ++ s.drop 56 := (List.take_append_drop 56 s).symm
  have hl : (s.take 56).length = 56 := by rw [List.length_take]; omega
  unfold checked
  constructor
  · intro q
    have := congrArg (List.drop 56) q
    rwa [List.drop_left' hl] at this
  · intro q
    rw [q]; exact e.symm
theorem repl_b (n : Nat) : repl n [AVal.int .u8 0] = (List.replicate n (0 : UInt8)).map byteV := by
  induction n with
  | zero => rfl
  | succ n ih => rw [List.replicate_succ, List.map_cons, ← ih]; rfl
theorem unpack_v (s : Bs) (hs : s.length ≤ 1000000) : PV F 30 [.str s] = some (partV (unpack s)) := by
  have hz := zrow 64 (.inl rfl)
  have hy := zrow 32 (.inr rfl)
  obtain ⟨z, hzz⟩ : ∃ z, z = List.replicate 64 (0 : UInt8) := ⟨_, rfl⟩
  obtain ⟨y, hyy⟩ : ∃ y, y = List.replicate 32 (0 : UInt8) := ⟨_, rfl⟩
  have zl : z.length = 64 := by rw [hzz]; simp
  have yl : y.length = 32 := by rw [hyy]; simp
  have zo := bytes_all z
  have yo := bytes_all y
  refine PV_wp (fn := c30) rfl ?_
  dsimp only [c30]
  rw [hz, hy, ← hzz, ← hyy]
  by_cases h64 : s.length = 64
  · have so := bytes_all s
    have sst := set_bytes z s (by rw [zl, h64])
    have stk : (s.map byteV).take 64 = s.map byteV := List.take_of_length_le (by rw [List.length_map]; omega)
    have tk : s.take 64 = s := List.take_of_length_le (by omega)
    replace fx := aI @zl (aI @yl (aI @zo (aI @yo (aI @so (aI @sst (aI @stk (aI @tk (aI @h64 (aI @aR @bR)))))))))
    (first | refine go ?_ | exact goC | skip); repeat' (first | refine gP ?_ | exact gPc | refine gN ?_ | exact gNc | (refine gI ?_ ?_ <;> intro hyp <;> first | refine goF ?_ | exact goFc | refine goT ?_ | exact goTc | skip))
    obtain ⟨R0, hR0⟩ : ∃ R, R = Obj.row true (typed 65) true [AVal.int IntKind.i64 0, AVal.int IntKind.i64 0, AVal.int IntKind.i64 0, AVal.str [], AVal.bool false] := ⟨_, rfl⟩
    obtain ⟨H, hH⟩ : ∃ H, H = (Heap.empty.push R0).push (Obj.row true (typed 61) true (s.map byteV)) := ⟨_, rfl⟩
    have hn : H.next = 2 := by rw [hH]; rfl
    have g0 : H.get 0 = some R0 := by rw [hH]; rfl
    have g1 : H.get 1 = some (Obj.row true (typed 61) true (s.map byteV)) := by rw [hH]; rfl
    rw [← hR0, ← hH]
    refine lend1 g1 (.inl (by decide)) (by omega) (hash_cv _ (by rw [List.length_take, List.length_drop]; omega)) (scal_bytes _) ?_
    rw [List.drop_zero]
    have sl := sum_len (s.take 56)
    have sso := bytes_all (sum (s.take 56))
    obtain ⟨S, hS⟩ : ∃ S, S = sum (s.take 56) := ⟨_, rfl⟩
    have hck := checked_iff s h64
    rw [← hS] at sl sso hck ⊢
    have sst2 := set_bytes y S (by rw [yl, sl])
    replace fx := aI @hn (aI @yl (aI @yo (aI @sl (aI @sso (aI @sst2 (aI @g1 (aI @h64 (aI @aR @bR))))))))
    (first | refine go ?_ | exact goC | skip); repeat' (first | refine gP ?_ | exact gPc | refine gN ?_ | exact gNc | (refine gI ?_ ?_ <;> intro hyp <;> first | refine goF ?_ | exact goFc | refine goT ?_ | exact goTc | skip))
    obtain ⟨H2, hH2⟩ : ∃ H2, H2 = H.push (Obj.row true (typed 101) true (S.map byteV)) := ⟨_, rfl⟩
    have k0 := push_eqs hH2 g0
    have k1 := push_eqs hH2 g1
    have k2 : H2.get 2 = some (Obj.row true (typed 101) true (S.map byteV)) := by rw [hH2]; exact get_push_eq hn.symm
    have n2 : H2.next = 3 := by rw [hH2, push_next, hn]
    rw [← hH2]
    clear hH hH2 g0 g1
    obtain ⟨N, hN⟩ : ∃ N, N = num (s.take 4) := ⟨_, rfl⟩
    obtain ⟨P, hP⟩ : ∃ P, P = num ((s.drop 4).take 2) := ⟨_, rfl⟩
    obtain ⟨L, hL⟩ : ∃ L, L = num ((s.drop 6).take 2) := ⟨_, rfl⟩
    have hPl : P < 65536 := by have := num_lt ((s.drop 4).take 2); rw [List.length_take, List.length_drop, h64] at this; exact hP ▸ this
    have hLl : L < 65536 := by have := num_lt ((s.drop 6).take 2); rw [List.length_take, List.length_drop, h64] at this; exact hL ▸ this
    have hNl : N < 4294967296 := by have := num_lt (s.take 4); rw [List.length_take, h64] at this; exact hN ▸ this
    have c1 := get_c ((s.drop 0).take 4) (by rw [List.length_take]; omega)
    have c2 := get_c ((s.drop 4).take 2) (by rw [List.length_take]; omega)
    have c3 := get_c ((s.drop 6).take 2) (by rw [List.length_take]; omega)
    refine lend1 k1 (.inl (by decide)) (by omega) c1 rfl ?_
    refine lend1 k1 (.inl (by decide)) (by omega) c2 rfl ?_
    refine lend1 k1 (.inl (by decide)) (by omega) c3 rfl ?_
    rw [List.drop_zero, ← hN, ← hP, ← hL]
    clear c1 c2 c3
    have hf : fld s = ⟨N, P, L, (s.drop 8).take (min L 48)⟩ := by rw [fld, hN, hP, hL]
    have hg := good_iff s
    rw [hf] at hg
    simp only [] at hg
    rw [hck] at hg
    obtain ⟨M, hM⟩ : ∃ M, M = min L 48 := ⟨_, rfl⟩
    have hMl : M ≤ 48 := by omega
    have hMi : min (L : Int) 48 = (M : Int) := by omega
    have hT : (48 - (M : Int)).toNat = 48 - M := by omega
    rw [← hM] at hg hf
    replace fx := aI @n2 (aI @k0 (aI @k1 (aI @k2 (aI @sl (aI @h64 (aI @aR (aI @bR (aI @XW_mnxK (aI @mnx_min (aI @hMi @hT))))))))))
    (first | refine go ?_ | exact goC | skip); repeat' (first | refine gP ?_ | exact gPc | refine gN ?_ | exact gNc | (refine gI ?_ ?_ <;> intro hyp <;> first | refine goF ?_ | exact goFc | refine goT ?_ | exact goTc | skip))
    rw [repl_b]
    obtain ⟨R3, hR3⟩ : ∃ R, R = Obj.row true (typed 65) true [AVal.int IntKind.i64 (N : Int), AVal.int .i64 (P : Int), .int .i64 (L : Int), .str [], .bool true] := ⟨_, rfl⟩
    obtain ⟨R4, hR4⟩ : ∃ R, R = Obj.row true 1 false ((List.replicate (48 - M) (0 : UInt8)).map byteV) := ⟨_, rfl⟩
    obtain ⟨H4, hH4⟩ : ∃ H4, H4 = (H2.push R3).push R4 := ⟨_, rfl⟩
    have m0 := push_eqs hH4 (push_eqs rfl k0)
    have m1 := push_eqs hH4 (push_eqs rfl k1)
    have m2 := push_eqs hH4 (push_eqs rfl k2)
    have m3 : H4.get 3 = some R3 := push_eqs hH4 (get_push_eq n2.symm)
    have m4 : H4.get 4 = some R4 := by rw [hH4]; exact get_push_eq (by rw [push_next, n2])
    rw [← hR3, ← hR4, ← hH4]
    have n4 : H4.next = 5 := by rw [hH4, push_next, push_next, n2]
    clear hH4 k0 k1 k2
    refine lend2 m2 (.inl (by decide)) (by omega) m1 (.inl (by decide)) (by omega) (equal_cv _ _) rfl ?_
    have e8 : (s.drop 56).take 8 = s.drop 56 := List.take_of_length_le (by rw [List.length_drop]; omega)
    rw [List.drop_zero, e8]
    rw [hR3] at m3
    rw [hR0] at m0
    rw [hR4] at m4
    by_cases hp : S.take 8 = s.drop 56 ∧ 1 ≤ N ∧ N ≤ 4096 ∧ 48 * P + L ≤ 8000 ∧ ¬ (L < 1 ∧ 0 < P)
    · obtain ⟨p1, p2, p3, p4, p5⟩ := hp
      have T8 : (8 + (M : Int)).toNat = 8 + M := by omega
      have T9 : 56 - (8 + M) = 48 - M := by omega
      have ez : (List.replicate (48 - M) (0 : UInt8)).drop 0 = List.replicate (48 - M) 0 := rfl
      have et : (List.replicate (48 - M) (0 : UInt8)).take (48 - M) = List.replicate (48 - M) 0 := List.take_of_length_le (by simp)
      replace fx := aI @p1 (aI @m3 (aI @m1 (aI @h64 (aI @aR (aI @bR (aI @T8 @T9))))))
      (first | refine go ?_ | exact goC | skip); repeat' (first | refine gP ?_ | exact gPc | refine gN ?_ | exact gNc | (refine gI ?_ ?_ <;> intro hyp <;> first | refine goF ?_ | exact goFc | refine goT ?_ | exact goTc | skip))
      all_goals
        refine lend2 m1 (.inl (by decide)) (by omega) m4 (.inr rfl) (by simp) (equal_cv _ _) rfl ?_
        rw [ez, et]
        by_cases hz0 : (s.drop (8 + M)).take (48 - M) = List.replicate (48 - M) 0
        · have hgood : good s = true := hg.2 ⟨h64, p1, p2, p3, p4, p5, hz0⟩
          have T10 : 8 + M - 8 = M := by omega
          have gq : ∀ (a b : Option Abs.Obj), ((H4.put 3 a).put 0 b).get 0 = b := fun a b => get_put_old ((get_put_ne (by omega)).trans m0)
          rw [unpack_some hgood, hf]
          have gp : ∀ (a : Abs.Obj), (H4.put 3 (some a)).get 3 = some a := fun a => get_put_old m3
          replace fx := aI @hz0 (aI @m0 (aI @m3 (aI @gp (aI @gq (aI @h64 (aI @T8 @T10))))))
          (first | refine go ?_ | exact goC | skip); repeat' (first | refine gP ?_ | exact gPc | refine gN ?_ | exact gNc | (refine gI ?_ ?_ <;> intro hyp <;> first | refine goF ?_ | exact goFc | refine goT ?_ | exact goTc | skip))
          rfl
        · rw [unpack_none fun q => hz0 (hg.1 q).2.2.2.2.2.2]
          replace fx := aI @hz0 @m0
          (first | refine go ?_ | exact goC | skip); repeat' (first | refine gP ?_ | exact gPc | refine gN ?_ | exact gNc | (refine gI ?_ ?_ <;> intro hyp <;> first | refine goF ?_ | exact goFc | refine goT ?_ | exact goTc | skip))
          rfl
    · rw [unpack_none fun q => hp ⟨(hg.1 q).2.1, (hg.1 q).2.2.1, (hg.1 q).2.2.2.1, (hg.1 q).2.2.2.2.1, (hg.1 q).2.2.2.2.2.1⟩]
      replace fx := aI @m0 (aI @m3 (aI @m1 (aI @h64 (aI @aR @bR))))
      (first | refine go ?_ | exact goC | skip); repeat' (first | refine gP ?_ | exact gPc | refine gN ?_ | exact gNc | (refine gI ?_ ?_ <;> intro hyp <;> first | refine goF ?_ | exact goFc | refine goT ?_ | exact goTc | skip))
      all_goals first | rfl | (refine absurd ⟨?_, ?_, ?_, ?_, ?_⟩ hp <;> first | assumption | omega)
  · have e : unpack s = none := unpack_none (by rw [good_iff]; exact fun q => h64 q.1)
    replace fx := Dum_eq
    (first | refine go ?_ | exact goC | skip); repeat' (first | refine gP ?_ | exact gPc | refine gN ?_ | exact gNc | (refine gI ?_ ?_ <;> intro hyp <;> first | refine goF ?_ | exact goFc | refine goT ?_ | exact goTc | skip))
    rw [e]; rfl
theorem Unpack_v (s : Bs) (hs : s.length ≤ 1000000) : PV F 8 [.str s] = some (.tup (partC (unpack s))) := by
  have h1 := unpack_v s hs
  refine PV_wp (fn := c8) rfl ?_
  dsimp only [c8]
  cases hu : unpack s with
  | none =>
    rw [hu] at h1
    unfold partV partC at h1
    replace fx := @h1
    (first | refine go ?_ | exact goC | skip); repeat' (first | refine gP ?_ | exact gPc | refine gN ?_ | exact gNc | (refine gI ?_ ?_ <;> intro hyp <;> first | refine goF ?_ | exact goFc | refine goT ?_ | exact goTc | skip))
    rfl
  | some p =>
    rw [hu] at h1
    unfold partV partC at h1
    replace fx := @h1
    (first | refine go ?_ | exact goC | skip); repeat' (first | refine gP ?_ | exact gPc | refine gN ?_ | exact gNc | (refine gI ?_ ?_ <;> intro hyp <;> first | refine goF ?_ | exact goFc | refine goT ?_ | exact goTc | skip))
    rfl
theorem unpack_w (s : Bs) : PV F 30 [.str s] = some (partV (unpack s)) := by
  by_cases h : s.length ≤ 1000000
  · exact unpack_v s h
  · have e : unpack s = none := unpack_none (by rw [good_iff]; exact fun q => by have := q.1; omega)
    refine PV_wp (fn := c30) rfl ?_
    dsimp only [c30]
    replace fx := Dum_eq
    (first | refine go ?_ | exact goC | skip); repeat' (first | refine gP ?_ | exact gPc | refine gN ?_ | exact gNc | (refine gI ?_ ?_ <;> intro hyp <;> first | refine goF ?_ | exact goFc | refine goT ?_ | exact goTc | skip))
    rw [e]; rfl
theorem Unpack_w (s : Bs) : PV F 8 [.str s] = some (.tup (partC (unpack s))) := by
  have h1 := unpack_w s
  refine PV_wp (fn := c8) rfl ?_
  dsimp only [c8]
  cases hu : unpack s with
  | none =>
    rw [hu] at h1
    unfold partV partC at h1
    replace fx := @h1
    (first | refine go ?_ | exact goC | skip); repeat' (first | refine gP ?_ | exact gPc | refine gN ?_ | exact gNc | (refine gI ?_ ?_ <;> intro hyp <;> first | refine goF ?_ | exact goFc | refine goT ?_ | exact goTc | skip))
    rfl
  | some p =>
    rw [hu] at h1
    unfold partV partC at h1
    replace fx := @h1
    (first | refine go ?_ | exact goC | skip); repeat' (first | refine gP ?_ | exact gPc | refine gN ?_ | exact gNc | (refine gI ?_ ?_ <;> intro hyp <;> first | refine goF ?_ | exact goFc | refine goT ?_ | exact goTc | skip))
    rfl
end Go.Proofs.YtjofjgflcogklaaDoor

namespace Go.Proofs.YtjofjgflcogklaaDoor
open Go Go.Abs Go.Sha Go.Jn
theorem partV_none : partV none = .agg [.int .i64 0, .int .i64 0, .int .i64 0, .str [], .bool false] := rfl
theorem partV_some (p : Prt) : partV (some p) = .agg [.int .i64 (p.number : Int), .int .i64 (p.part : Int), .int .i64 (p.left : Int), .str p.pay, .bool true] := rfl
theorem partV_len (o : Option Prt) : (partV o).cells.length = 5 := by cases o <;> rfl
def recV (o : Option (Nat × Nat × Bs)) : AVal := match o with
  | none => .tup [.str [], .int .i64 0, .bool false]
  | some (_, c, t) => .tup [.str t, .int .i64 (c : Int), .bool true]
def POk (o : Option Prt) : Prop := ∀ p, o = some p → p.left ≤ 8000 ∧ 1 ≤ p.number ∧ p.number ≤ 4096 ∧ 48 * p.part + p.left ≤ 8000 ∧ p.pay.length ≤ 48
theorem unpack_ok (s : Bs) : POk (unpack s) := fun p h => unpack_left h
theorem textOf_succ (ps : List (Option Prt)) {k : Nat} (hk : k < ps.length) : textOf ps (k + 1) = textOf ps k ++ payO (nth ps k) := by
  simp only [textOf, List.take_succ_eq_append_getElem hk, List.flatMap_append, nth_eq hk]
  simp
theorem textOf_len (ps : List (Option Prt)) (hp : ∀ o ∈ ps, POk o) (k : Nat) : (textOf ps k).length ≤ 48 * k := by
  induction k with
  | zero => simp [textOf]
  | succ k ih =>
    by_cases hk : k < ps.length
    · rw [textOf_succ ps hk, List.length_append]
      have : (payO (nth ps k)).length ≤ 48 := by
        have hm := hp _ (nth_mem hk)
        cases hq : nth ps k with
        | none => simp [payO]
        | some q => exact (hm q hq).2.2.2.2
      omega
    · have : textOf ps (k + 1) = textOf ps k := by
        rw [textOf, textOf, List.take_of_length_le (by omega), List.take_of_length_le (by omega)]
      rw [this]; omega
theorem record_v (ps : List (Option Prt)) (hne : ps ≠ []) (hl : ps.length ≤ 1000000) (hp : ∀ o ∈ ps, POk o) : PV F 34 [.sl (ps.map partV) .none] = some (recV (record ps)) := by
  obtain ⟨o, ps', rfl⟩ : ∃ o ps', ps = o :: ps' := by cases ps with | nil => exact absurd rfl hne | cons a b => exact ⟨a, b, rfl⟩
  obtain ⟨ps, hps⟩ : ∃ ps, ps = o :: ps' := ⟨_, rfl⟩
  have h0 : nth ps 0 = o := by rw [hps]; rfl
  have hlen : 1 ≤ ps.length := by rw [hps]; simp
  rw [← hps] at hl hp ⊢
  have plen := partV_len
  refine PV_wp (fn := c34) rfl ?_
  dsimp only [c34]
  cases o with
  | none =>
    have hc := count_v 0
    have hr : record ps = none := by rw [hps]; rfl
    rw [hr]
    replace fx := aI @h0 (aI @partV_none @hc)
    (first | refine go ?_ | exact goC | skip); repeat' (first | refine gP ?_ | exact gPc | refine gN ?_ | exact gNc | (refine gI ?_ ?_ <;> intro hyp <;> first | refine goF ?_ | exact goFc | refine goT ?_ | exact goTc | skip))
    rfl
  | some p =>
    have hc := count_v p.left
    obtain ⟨l1, l2, l3, l4, l5⟩ := hp (some p) (by rw [hps]; simp) p rfl
    have hcl := count_le p.left
    have hc1 := count_pos p.left l1
    have hr : record ps = if decide (p.part = 0) && (decide (count p.left ≤ ps.length) && (List.range (count p.left)).all (chainOk ps p)) then some (p.number, count p.left, textOf ps (count p.left)) else none := by rw [hps]; rfl
    obtain ⟨C, hC⟩ : ∃ C, C = count p.left := ⟨_, rfl⟩
    rw [← hC] at hc hcl hc1 hr
    by_cases hq : p.part = 0 ∧ C ≤ ps.length
    · obtain ⟨q1, q2⟩ := hq
      have hsl := fun (h2 : (C : Int) ≤ ps.length) => slice_n_b partV ps .i64 (C : Int) (by omega) h2 partV_len
      have tkl : (ps.take C).length = C := by rw [List.length_take]; omega
      replace fx := aI @h0 (aI @partV_some (aI @hc (aI @hsl @tkl)))
      (first | refine go ?_ | exact goC | skip); repeat' (first | refine gP ?_ | exact gPc | refine gN ?_ | exact gNc | (refine gI ?_ ?_ <;> intro hyp <;> first | refine goF ?_ | exact goFc | refine goT ?_ | exact goTc | skip))
      refine w_loop (fun m vs h => ∃ (k : Nat) (x1 x2 x3 x4 x5 : AVal), m = C - k ∧ k ≤ C ∧ (∀ i, i < k → chainOk ps p i = true) ∧ vs = [.sl (ps.map partV) .none, .str [], .int .i64 0, .bool false, .ptr 0 0, .int .i64 (C : Int), .str (textOf ps k), x1, x2, x3, .sl ((ps.take C).map partV) .none, .int .i64 (C : Int), .int .i64 (k : Int), x4, x5] ∧ ∃ S a, h.get 0 = some (.row true S a [.int .i64 (p.number : Int), .int .i64 (p.part : Int), .int .i64 (p.left : Int), .str p.pay, .bool true])) C
        ⟨0, _, _, _, _, _, rfl, by omega, fun i hi => by omega, rfl, ⟨_, _, rfl⟩⟩ ?_
      · rintro m vs h ⟨k, x1, x2, x3, x4, x5, rfl, hk, hch, rfl, S, a, g0⟩
        by_cases hkC : k < C
        · have ntk : nth (ps.take C) k = nth ps k := nth_take hkC
          have hm := hp _ (nth_mem (show k < ps.length by omega))
          have hts := textOf_succ ps (show k < ps.length by omega)
          have htl := textOf_len ps hp k
          cases hq : nth ps k with
          | none =>
            have hcc : record ps = none := by
              rw [hr, if_neg]
              simp only [Bool.and_eq_true, decide_eq_true_eq, List.all_eq_true, List.mem_range]
              intro q
              have := q.2.2 k hkC
              rw [chainOk, List.getElem?_eq_getElem (by omega), ← nth_eq (by omega), hq] at this
              simp at this
            rw [hcc]
            replace fx := aI @tkl (aI @ntk (aI @hq (aI @partV_none @g0)))
            (first | refine go ?_ | exact goC | skip); repeat' (first | refine gP ?_ | exact gPc | refine gN ?_ | exact gNc | (refine gI ?_ ?_ <;> intro hyp <;> first | refine goF ?_ | exact goFc | refine goT ?_ | exact goTc | skip))
            rfl
          | some q =>
            obtain ⟨m1, m2, m3, m4, m5⟩ := hm q hq
            rw [hq] at hts
            have l0 := get_lt g0
            have bad : ¬ (q.number = p.number ∧ q.part = k ∧ q.left + 48 * k = p.left) → record ps = none := by
              intro hn
              rw [hr, if_neg]
              simp only [Bool.and_eq_true, decide_eq_true_eq, List.all_eq_true, List.mem_range]
              intro q'
              have := q'.2.2 k hkC
              rw [chainOk, List.getElem?_eq_getElem (by omega), ← nth_eq (by omega), hq] at this
              simp only [decide_eq_true_eq] at this
              exact hn this
            have gd : q.number = p.number ∧ q.part = k ∧ q.left + 48 * k = p.left → chainOk ps p k = true := by
              intro hn
              rw [chainOk, List.getElem?_eq_getElem (by omega), ← nth_eq (by omega), hq]
              simp only [decide_eq_true_eq]
              exact hn
            have hap : (textOf ps k ++ q.pay) = textOf ps (k + 1) := hts.symm
            replace fx := aI @tkl (aI @ntk (aI @hq (aI @partV_some @g0)))
            (first | refine go ?_ | exact goC | skip); repeat' (first | refine gP ?_ | exact gPc | refine gN ?_ | exact gNc | (refine gI ?_ ?_ <;> intro hyp <;> first | refine goF ?_ | exact goFc | refine goT ?_ | exact goTc | skip))
            all_goals first
              | (rw [bad (by omega)]; rfl)
              | skip
            rw [hap]
            refine lp_n ⟨_, by omega, k + 1, _, _, _, _, _, rfl, by omega, fun i hi => ?_, by push_cast; rfl, ⟨_, _, get_push_old g0⟩⟩
            by_cases e : i = k
            · rw [e]; exact gd (by omega)
            · exact hch i (by omega)
        · have e : k = C := by omega
          subst e
          have hcc : record ps = some (p.number, k, textOf ps k) := by
            rw [hr, if_pos]
            simp only [Bool.and_eq_true, decide_eq_true_eq, List.all_eq_true, List.mem_range]
            exact ⟨q1, q2, hch⟩
          rw [hcc]
          replace fx := Dum_eq
          (first | refine go ?_ | exact goC | skip); repeat' (first | refine gP ?_ | exact gPc | refine gN ?_ | exact gNc | (refine gI ?_ ?_ <;> intro hyp <;> first | refine goF ?_ | exact goFc | refine goT ?_ | exact goTc | skip))
          rfl
    · have : record ps = none := by
        rw [hr, if_neg]
        simp only [Bool.and_eq_true, decide_eq_true_eq]
        exact fun q => hq ⟨q.1, q.2.1⟩
      rw [this]
      replace fx := aI @h0 (aI @partV_some @hc)
      (first | refine go ?_ | exact goC | skip); repeat' (first | refine gP ?_ | exact gPc | refine gN ?_ | exact gNc | (refine gI ?_ ?_ <;> intro hyp <;> first | refine goF ?_ | exact goFc | refine goT ?_ | exact goTc | skip))
      all_goals rfl
def IdxV (l : List Int) (n : Int) (v : AVal) : Prop := ∃ r : Int, v = .int .i64 r ∧ -1 ≤ r ∧ r ≤ 1000000 ∧ (0 ≤ r ↔ n ∈ l)
theorem index_v (l : List Int) (n : Int) (hl : l.length ≤ 1000000) (t : Tok) (ht : Pt t) : ∃ r : Int, -1 ≤ r ∧ r ≤ 1000000 ∧ (0 ≤ r ↔ n ∈ l) ∧ PV F 52 [.sl (l.map (.int .i64)) t, .int .i64 n] = some (.int .i64 r) := by
  have key : CV F 52 [.sl (l.map (.int .i64)) t, .int .i64 n] Heap.empty (fun v _ => IdxV l n v) := by
    refine CV_wp (fn := c52) rfl ?_
    dsimp only [c52]
    replace fx := Dum_eq
    (first | refine go ?_ | exact goC | skip); repeat' (first | refine gP ?_ | exact gPc | refine gN ?_ | exact gNc | (refine gI ?_ ?_ <;> intro hyp <;> first | refine goF ?_ | exact goFc | refine goT ?_ | exact goTc | skip))
    refine w_loop (fun m vs h => ∃ (k : Nat) (x1 x2 x3 x4 : AVal), m = l.length - k ∧ k ≤ l.length ∧ (∀ i, i < k → nth l i ≠ n) ∧ vs = [.sl (l.map (.int .i64)) t, .int .i64 n, x1, x2, .int .i64 (l.length : Int), .int .i64 (k : Int), x3, x4]) l.length
      ⟨0, _, _, _, _, rfl, by omega, fun i hi => by omega, rfl⟩ ?_
    rintro m vs h ⟨k, x1, x2, x3, x4, rfl, hk, hz, rfl⟩
    by_cases hks : k < l.length
    · have hm := nth_mem hks
      by_cases h0 : nth l k = n
      · replace fx := @h0
        (first | refine go ?_ | exact goC | skip); repeat' (first | refine gP ?_ | exact gPc | refine gN ?_ | exact gNc | (refine gI ?_ ?_ <;> intro hyp <;> first | refine goF ?_ | exact goFc | refine goT ?_ | exact goTc | skip))
        exact ⟨_, rfl, by omega, by omega, by rw [← h0]; simpa using hm⟩
      · have h0' : ¬ n = nth l k := fun q => h0 q.symm
        replace fx := @h0'
        (first | refine go ?_ | exact goC | skip); repeat' (first | refine gP ?_ | exact gPc | refine gN ?_ | exact gNc | (refine gI ?_ ?_ <;> intro hyp <;> first | refine goF ?_ | exact goFc | refine goT ?_ | exact goTc | skip))
        refine lp_n ⟨_, by omega, k + 1, _, _, _, _, rfl, by omega, fun i hi => ?_, by push_cast; rfl⟩
        by_cases e : i = k
        · rw [e]; exact h0
        · exact hz i (by omega)
    · replace fx := Dum_eq
      (first | refine go ?_ | exact goC | skip); repeat' (first | refine gP ?_ | exact gPc | refine gN ?_ | exact gNc | (refine gI ?_ ?_ <;> intro hyp <;> first | refine goF ?_ | exact goFc | refine goT ?_ | exact goTc | skip))
      refine ⟨_, rfl, by omega, by omega, ?_⟩
      have : ¬ n ∈ l := fun hx => by
        obtain ⟨i, hi, q⟩ := List.getElem_of_mem hx
        exact hz i (by omega) (by rw [nth_eq hi, q])
      simp [this]
  obtain ⟨r, h', g, r', rfl, q1, q2, q3⟩ := key
  exact ⟨r', q1, q2, q3, PV_of g rfl⟩
theorem contains_v (l : List Int) (n : Int) (hl : l.length ≤ 1000000) (t : Tok) (ht : Pt t) : PV F 35 [.sl (l.map (.int .i64)) t, .int .i64 n] = some (.bool (decide (n ∈ l))) := by
  obtain ⟨r, q1, q2, q3, hp⟩ := index_v l n hl t ht
  refine PV_wp (fn := c35) rfl ?_
  dsimp only [c35]
  replace fx := aI @hp @q3
  (first | refine go ?_ | exact goC | skip); repeat' (first | refine gP ?_ | exact gPc | refine gN ?_ | exact gNc | (refine gI ?_ ?_ <;> intro hyp <;> first | refine goF ?_ | exact goFc | refine goT ?_ | exact goTc | skip))
end Go.Proofs.YtjofjgflcogklaaDoor

namespace Go.Proofs.YtjofjgflcogklaaDoor
open Go Go.Abs
variable {h : Heap} {d b p w r s : Nat} {D : Dsk}
theorem bin_quo8 (n : Nat) (hn : n < 512) : binA .quo .arith (.int .i64 (n : Int)) (.int .i64 8) = some (.int .i64 ((n / 8 : Nat) : Int)) :=
  isInt_eq (all_lt (n := 512) (p := fun n => isInt (binA .quo .arith (.int .i64 (n : Int)) (.int .i64 8)) .i64 ((n / 8 : Nat) : Int)) (by kernel_rfl) hn)
theorem bin_rem8 (n : Nat) (hn : n < 512) : binA .rem .arith (.int .i64 (n : Int)) (.int .i64 8) = some (.int .i64 ((n % 8 : Nat) : Int)) :=
  isInt_eq (all_lt (n := 512) (p := fun n => isInt (binA .rem .arith (.int .i64 (n : Int)) (.int .i64 8)) .i64 ((n % 8 : Nat) : Int)) (by kernel_rfl) hn)
theorem bin_shl1 (n : Nat) (hn : n < 8) : binA .shl .arith (.int .u8 1) (.int .i64 (n : Int)) = some (.int .u8 ((2 ^ n : Nat) : Int)) :=
  isInt_eq (all_lt (n := 8) (p := fun n => isInt (binA .shl .arith (.int .u8 1) (.int .i64 (n : Int))) .u8 ((2 ^ n : Nat) : Int)) (by kernel_rfl) hn)
theorem bin_flip (a : UInt8) (n : Nat) (hn : n < 8) : binA .xor .arith (byteV a) (.int .u8 ((2 ^ n : Nat) : Int)) = some (byteV (flipB a n)) := by
  have key := all_lt (n := 256) (p := fun a => (List.range 8).all fun n => isInt (binA .xor .arith (.int .u8 (a : Int)) (.int .u8 ((2 ^ n : Nat) : Int))) .u8 (((UInt8.ofNat (a ^^^ (1 <<< n))).toNat : Nat) : Int)) (by kernel_rfl) a.toNat_lt
  exact isInt_eq (all_lt key hn)
theorem rot_c (P : PD h d b p w D) (i bit : Int) : CV F 24 [.ptr d 0, .int .i64 i, .int .i64 bit] h (fun v h' => v = .int .i64 (D.rot i bit).1 ∧ PD h' d b p w (D.rot i bit).2 ∧ Fr (PS d b p w) h h') := by
  have P0 := P
  obtain ⟨ok, ⟨lv, l1, l2⟩, blk, ⟨c, es, p1, p2⟩, ⟨c', es', w1, w2⟩, n1, n2, n3, n4, n5, n6⟩ := P
  have hlen := ok.len
  refine CV_wp (fn := c24) rfl ?_
  dsimp only [c24]
  by_cases hi : i < 0 ∨ (D.s.length : Int) ≤ i ∨ bit < 0 ∨ 512 ≤ bit
  · rw [show D.rot i bit = (1, D) from if_pos hi]
    replace fx := @l2
    (first | refine go ?_ | exact goC | skip); repeat' (first | refine gP ?_ | exact gPc | refine gN ?_ | exact gNc | (refine gI ?_ ?_ <;> intro hyp <;> first | refine goF ?_ | exact goFc | refine goT ?_ | exact goTc | skip))
    all_goals exact ⟨P0, Fr.refl _ _⟩
  · obtain ⟨k, rfl⟩ : ∃ k : Nat, i = (k : Int) := ⟨i.toNat, by omega⟩
    obtain ⟨t, rfl⟩ : ∃ t : Nat, bit = (t : Int) := ⟨bit.toNat, by omega⟩
    have hk : k < D.s.length := by omega
    have ht : t < 512 := by omega
    have hb := P0.lt b (.inr (.inl rfl))
    rw [show D.rot (k : Int) (t : Int) = (0, { D with s := D.s.set k { nth D.s k with text := flipT (nth D.s k).text t } }) by unfold Dsk.rot; rw [if_neg hi]; simp]
    have hx64 := (nth D.s k).text.2
    have hbl : (blkV (nth D.s k)).cells = (nth D.s k).text.1.map byteV := rfl
    have hnb : nth ((nth D.s k).text.1.map byteV) (t / 8) = byteV (nth (nth D.s k).text.1 (t / 8)) := nth_map _ _ (by omega)
    have Lb : ∀ (mu : Bool) (s : Nat) (a : Bool), loadG 1 false (k * 64 + t / 8) (some (.row mu s a (flat (D.s.map blkV)))) = some (byteV (nth (nth D.s k).text.1 (t / 8))) := fun mu s a => by
      rw [loadG_flat (f := blkV) (sz := 64) blkV_len D.s false mu s a hk (by omega), hbl, drop_take1 _ (by rw [List.length_map]; omega), hnb]; rfl
    have Sb : ∀ (H : Heap) (s : Nat) (a : Bool), storeG 1 b (k * 64 + t / 8) (byteV (flipB (nth (nth D.s k).text.1 (t / 8)) (t % 8))) H (some (.row true s a (flat (D.s.map blkV)))) = some (H.put b (some (.row true s a (flat ((D.s.set k { nth D.s k with text := flipT (nth D.s k).text t }).map blkV))))) := fun H s a => by
      refine storeG_flat (f := blkV) (sz := 64) blkV_len D.s s a _ hk rfl (by omega) rfl ?_
      show ((nth D.s k).text.1.set (t / 8) _).map byteV = ((nth D.s k).text.1.map byteV).set (t / 8) _
      rw [List.map_set]
    have q1 := bin_quo8 t ht
    have q2 := bin_rem8 t ht
    have q3 := bin_shl1 (t % 8) (by omega)
    have q4 := bin_flip (nth (nth D.s k).text.1 (t / 8)) (t % 8) (by omega)
    replace fx := aI @l2 (aI @blk (aI @q1 (aI @q2 (aI @q3 (aI @q4 (aI @XW_aaddrK (aI @aaddr_ptr (aI @Nat.mul_one (aI @Lb @Sb)))))))))
    (first | refine go ?_ | exact goC | skip); repeat' (first | refine gP ?_ | exact gPc | refine gN ?_ | exact gNc | (refine gI ?_ ?_ <;> intro hyp <;> first | refine goF ?_ | exact goFc | refine goT ?_ | exact goTc | skip))
    refine ⟨P0.turn hk _ (get_put_ne (by assumption)) (get_put_old blk) ⟨c, es, by rw [get_put_ne (Ne.symm n4)]; exact p1, ?_⟩ ⟨c', es', by rw [get_put_ne (Ne.symm n5)]; exact w1, ?_⟩, Fr.put (Fr.refl _ _) (.inl (.inr (.inl rfl))) _⟩
    · rw [upd_same (pendF_at hk)]; exact p2
    · rw [upd_same (wornF_at hk)]; exact w2
end Go.Proofs.YtjofjgflcogklaaDoor

namespace Go.Proofs.YtjofjgflcogklaaDoor
open Go Go.Abs
variable {h : Heap} {d b p w r s : Nat} {D : Dsk}
def dirty (l : List Sec) : List Nat := (List.range l.length).filter fun i => (nth l i).next.isSome
def wornL (l : List Sec) : List Nat := (List.range l.length).filter fun i => (nth l i).worn
def zslN (l : List Nat) : AVal := zsl (l.map fun i : Nat => (i : Int))
theorem keys_c {id : Nat} {c : Nat} {es : List (Nat × AVal × AVal)} {n : Nat} {f : Nat → Option AVal} (hm : h.get id = some (.map (.int .i64) c es)) (hI : MapIs es n f) (hn : n ≤ 4096) {rid g : Nat} {mu ag : Bool} {sz : Nat} (hr : h.get rid = some (.row mu sz ag [.mp id])) (hg : g = 80) :
    CV F 74 [.fn g [.ptr rid 0]] h (fun v h' => v = zslN ((List.range n).filter fun i => (f i).isSome) ∧ h' = h) := by
  obtain ⟨ns, k1, k2, k3⟩ := hI.sorted hn
  refine CV_hand (s := sortedS 80 80) rfl (r := zsl (sortZ ns)) (h' := h) ?_ ⟨by rw [k2]; rfl, rfl⟩
  simp only [sortedS, hg, or_self, if_true, hr, hm, k3, k1, Option.map_some]
theorem filter_congr_range {n : Nat} {p q : Nat → Bool} (h : ∀ i, i < n → p i = q i) : (List.range n).filter p = (List.range n).filter q := List.filter_congr fun i hi => h i (List.mem_range.1 hi)
theorem close_c (h : Heap) (p : Nat) : CV F 75 [.mp p] h (fun v h' => v = .fn 80 [.ptr h.next 0] ∧ h' = h.push (.row true 0 false [.mp p])) := by
  refine CV_wp (fn := c75) rfl ?_
  dsimp only [c75]
  replace fx := Dum_eq
  (first | refine go ?_ | exact goC | skip); repeat' (first | refine gP ?_ | exact gPc | refine gN ?_ | exact gNc | (refine gI ?_ ?_ <;> intro hyp <;> first | refine goF ?_ | exact goFc | refine goT ?_ | exact goTc | skip))
  exact ⟨⟨rfl, rfl⟩, rfl⟩
theorem pending_c (P : PD h d b p w D) : CV F 68 [.ptr d 0] h (fun v h' => v = zslN (dirty D.s) ∧ Fr (fun _ => False) h h') := by
  have P0 := P
  obtain ⟨ok, ⟨lv, l1, l2⟩, blk, ⟨c, es, p1, p2⟩, ⟨c', es', w1, w2⟩, n1, n2, n3, n4, n5, n6⟩ := P
  have hp := P0.lt p (.inr (.inr (.inl rfl)))
  have hfin : (List.range D.s.length).filter (fun i => (pendF D.s i).isSome) = dirty D.s := filter_congr_range fun i hi => by rw [pendF_at hi]; simp
  refine CV_wp (fn := c68) rfl ?_
  dsimp only [c68]
  replace fx := @l2
  (first | refine go ?_ | exact goC | skip); repeat' (first | refine gP ?_ | exact gPc | refine gN ?_ | exact gNc | (refine gI ?_ ?_ <;> intro hyp <;> first | refine goF ?_ | exact goFc | refine goT ?_ | exact goTc | skip))
  refine CV_mono (close_c h p) ?_
  rintro v h1 ⟨rfl, rfl⟩
  have hk := cv_rw (keys_c (h := h.push (.row true 0 false [.mp p])) (by rw [get_push_ne (by omega)]; exact p1) p2 ok.len (rid := h.next) (get_push_eq rfl) rfl)
  rw [hfin] at hk
  replace fx := @hk
  (first | refine go ?_ | exact goC | skip); repeat' (first | refine gP ?_ | exact gPc | refine gN ?_ | exact gNc | (refine gI ?_ ?_ <;> intro hyp <;> first | refine goF ?_ | exact goFc | refine goT ?_ | exact goTc | skip))
  exact (Fr.refl _ _).push _
def setAll (p : Nat → Int) : List Nat → Nat → List Sec → List Sec
  | [], _, S => S
  | i :: l, k, S => setAll p l (k + 1) (S.set i (settle (nth S i) (p k)))
def dirtyFrom : Nat → List Sec → List Nat
  | _, [] => []
  | n, x :: s => if x.next.isSome then n :: dirtyFrom (n + 1) s else dirtyFrom (n + 1) s
theorem dirtyFrom_eq : ∀ (s : List Sec) (n : Nat), dirtyFrom n s = (List.range' n s.length).filter (fun i => (nth s (i - n)).next.isSome)
  | [], n => rfl
  | x :: s, n => by
    have ih := dirtyFrom_eq s (n + 1)
    have h0 : (List.range' (n + 1) s.length).filter (fun i => (nth (x :: s) (i - n)).next.isSome) = (List.range' (n + 1) s.length).filter (fun i => (nth s (i - (n + 1))).next.isSome) := by
      refine List.filter_congr fun i hi => ?_
      have := (List.mem_range'_1.1 hi).1
      rw [show i - n = (i - (n + 1)) + 1 by omega]
      rfl
    have hx : nth (x :: s) (n - n) = x := by rw [Nat.sub_self]; rfl
    rw [List.length_cons, List.range'_succ, List.filter_cons, hx, h0, ← ih]
    rfl
theorem dirty_eq (s : List Sec) : dirty s = dirtyFrom 0 s := by
  rw [dirtyFrom_eq, ← List.range_eq_range']
  rfl
theorem setAll_eq (p : Nat → Int) : ∀ (s pre : List Sec) (k : Nat), setAll p (dirtyFrom pre.length s) k (pre ++ s) = pre ++ mountS p s k
  | [], pre, k => by simp [dirtyFrom, setAll, mountS]
  | x :: s, pre, k => by
    have hap : pre ++ x :: s = (pre ++ [x]) ++ s := by simp
    cases hx : x.next with
    | none =>
      have ih := setAll_eq p s (pre ++ [x]) k
      simp only [List.length_append, List.length_cons, List.length_nil, Nat.zero_add] at ih
      simp only [dirtyFrom, hx, Option.isSome_none, Bool.false_eq_true, if_false, mountS]
      rw [hap, ih]; simp
    | some v =>
      have ih := setAll_eq p s (pre ++ [settle x (p k)]) (k + 1)
      simp only [List.length_append, List.length_cons, List.length_nil, Nat.zero_add] at ih
      simp only [dirtyFrom, hx, Option.isSome_some, if_true, mountS, setAll]
      have hn : nth (pre ++ x :: s) pre.length = x := by simp [nth, List.getD_eq_getElem?_getD]
      have hs : (pre ++ x :: s).set pre.length (settle x (p k)) = (pre ++ [settle x (p k)]) ++ s := by simp
      rw [hn, hs, ih]; simp
theorem setAll_dirty (p : Nat → Int) (s : List Sec) : setAll p (dirty s) 0 s = mountS p s 0 := by
  have := setAll_eq p s [] 0
  rw [dirty_eq]
  simpa using this
def intN (i : Nat) : AVal := .int .i64 (i : Int)
theorem intN_eq (n : Nat) : intN n = .int .i64 (n : Int) := rfl
def tkN (l : List Nat) : Tok := if l.map (fun i : Nat => (i : Int)) = [] then .nil else .none
theorem zslN_eq (l : List Nat) : zslN l = .sl (l.map intN) (tkN l) := by
  unfold zslN zsl tkN
  rw [List.map_map]; rfl
structure ToGo (l : List Nat) (S : List Sec) : Prop where
  nodup : l.Nodup
  mem : ∀ i ∈ l, i < S.length ∧ (nth S i).next.isSome = true
theorem togo_dirty (S : List Sec) : ToGo (dirty S) S := ⟨List.nodup_range.filter _, fun i hi => by
  obtain ⟨h1, h2⟩ := List.mem_filter.1 hi
  exact ⟨List.mem_range.1 h1, h2⟩⟩
theorem ToGo.step {i : Nat} {l : List Nat} {S : List Sec} (t : ToGo (i :: l) S) (x : Sec) : ToGo l (S.set i x) := by
  obtain ⟨h1, h2⟩ := List.nodup_cons.1 t.nodup
  refine ⟨h2, fun j hj => ?_⟩
  obtain ⟨k1, k2⟩ := t.mem j (by simp [hj])
  have hi := (t.mem i (by simp)).1
  refine ⟨by simpa using k1, ?_⟩
  rw [nth_set x hi, if_neg (by rintro rfl; exact h1 hj)]
  exact k2
theorem drop_nth {α : Type} [Inhabited α] {l : List α} {j : Nat} (hj : j < l.length) : l.drop j = nth l j :: l.drop (j + 1) := by
  rw [List.drop_eq_getElem_cons hj]
  simp [nth, List.getD_eq_getElem?_getD, hj]
theorem flush_c (P : PD h d b p w D) : CV F 54 [.ptr d 0] h (fun v h' => v = .int .i64 D.flush.1 ∧ PD h' d b p w D.flush.2 ∧ Fr (PS d b p w) h h') := by
  have P0 := P
  have ok := P.ok
  have hlen := ok.len
  refine CV_wp (fn := c54) rfl ?_
  dsimp only [c54]
  by_cases hoff : D.off = true
  · have hC := cv_rw (check_21 P0 hoff 0)
    rw [show D.flush = (21, D) from if_pos hoff]
    replace fx := @hC
    (first | refine go ?_ | exact goC | skip); repeat' (first | refine gP ?_ | exact gPc | refine gN ?_ | exact gNc | (refine gI ?_ ?_ <;> intro hyp <;> first | refine goF ?_ | exact goFc | refine goT ?_ | exact goTc | skip))
    exact ⟨P0, Fr.refl _ _⟩
  simp only [Bool.not_eq_true] at hoff
  have hC := cv_rw (check_0 P0 hoff (i := 0) (by omega) (by have := ok.pos; omega))
  replace fx := @hC
  (first | refine go ?_ | exact goC | skip); repeat' (first | refine gP ?_ | exact gPc | refine gN ?_ | exact gNc | (refine gI ?_ ?_ <;> intro hyp <;> first | refine goF ?_ | exact goFc | refine goT ?_ | exact goTc | skip))
  refine CV_mono (step_c P0) ?_
  rintro v h1 ⟨⟨q, rfl, P1⟩ | ⟨q, rfl, P1⟩, hF⟩
  · rw [show D.flush = (21, { D with off := true }) by unfold Dsk.flush; rw [hoff, if_neg (by simp), if_pos q]]
    replace fx := Dum_eq
    (first | refine go ?_ | exact goC | skip); repeat' (first | refine gP ?_ | exact gPc | refine gN ?_ | exact gNc | (refine gI ?_ ?_ <;> intro hyp <;> first | refine goF ?_ | exact goFc | refine goT ?_ | exact goTc | skip))
    exact ⟨P1, hF⟩
  · rw [show D.flush = (0, { D with left := stepL D.left, s := mountS (fun _ => 64) D.s 0 }) by unfold Dsk.flush; rw [hoff, if_neg (by simp), if_neg q]]
    replace fx := Dum_eq
    (first | refine go ?_ | exact goC | skip); repeat' (first | refine gP ?_ | exact gPc | refine gN ?_ | exact gNc | (refine gI ?_ ?_ <;> intro hyp <;> first | refine goF ?_ | exact goFc | refine goT ?_ | exact goTc | skip))
    refine CV_mono (pending_c P1) ?_
    rintro v h2 ⟨rfl, hF2⟩
    try refine GK_fr hF2 ?_
    have P2 := P1.fr hF2 (by simp)
    have hF2' : Fr (PS d b p w) h h2 := hF.trans (hF2.mono (by simp))
    have hdl : (dirty D.s).length ≤ 4096 := Nat.le_trans (List.length_filter_le _ _) (by simpa using hlen)
    generalize hl : dirty D.s = l at hdl
    rw [zslN_eq]
    replace fx := Dum_eq
    (first | refine go ?_ | exact goC | skip); repeat' (first | refine gP ?_ | exact gPc | refine gN ?_ | exact gNc | (refine gI ?_ ?_ <;> intro hyp <;> first | refine goF ?_ | exact goFc | refine goT ?_ | exact goTc | skip))
    refine w_loop (fun m vs h3 => ∃ (j : Nat) (S : List Sec) (x1 x2 x3 x4 x5 x6 x7 : AVal), m = l.length - j ∧ j ≤ l.length ∧ vs = [.ptr d 0, x1, x2, x3, x4, x5, x6, .sl (l.map intN) (tkN l), .int .i64 (l.length : Int), .int .i64 (j : Int), x7] ∧
      PD h3 d b p w { D with left := stepL D.left, s := S } ∧ Fr (PS d b p w) h h3 ∧ ToGo (l.drop j) S ∧ setAll (fun _ => 64) (l.drop j) j S = mountS (fun _ => 64) D.s 0) l.length
      ⟨0, D.s, _, _, _, _, _, _, _, by omega, by omega, by first | rfl | (simp only [List.length_map]; rfl), P2, hF2', by rw [List.drop_zero, ← hl]; exact togo_dirty D.s, by rw [List.drop_zero, ← hl]; exact setAll_dirty _ _⟩ ?_
    rintro m vs h3 ⟨j, S, x1, x2, x3, x4, x5, x6, x7, rfl, hj, rfl, P3, hF3, T, hS⟩
    by_cases hjl : j < l.length
    · rw [drop_nth hjl] at T hS
      have hi := T.mem _ (List.mem_cons_self ..)
      obtain ⟨v, hv⟩ := Option.isSome_iff_exists.1 hi.2
      replace fx := @intN_eq
      (first | refine go ?_ | exact goC | skip); repeat' (first | refine gP ?_ | exact gPc | refine gN ?_ | exact gNc | (refine gI ?_ ?_ <;> intro hyp <;> first | refine goF ?_ | exact goFc | refine goT ?_ | exact goTc | skip))
      refine CV_mono (settle_c P3 (k := nth l j) hi.1 hv 64) ?_
      rintro u h4 ⟨P4, hF4⟩
      replace fx := Dum_eq
      (first | refine go ?_ | exact goC | skip); repeat' (first | refine gP ?_ | exact gPc | refine gN ?_ | exact gNc | (refine gI ?_ ?_ <;> intro hyp <;> first | refine goF ?_ | exact goFc | refine goT ?_ | exact goTc | skip))
      exact lp_n ⟨_, by omega, j + 1, _, _, _, _, _, _, _, _, rfl, by omega, by push_cast; rfl, P4, hF3.trans hF4, T.step _, hS⟩
    · have : j = l.length := by omega
      subst this
      rw [List.drop_length] at hS
      simp only [setAll] at hS
      subst hS
      replace fx := Dum_eq
      (first | refine go ?_ | exact goC | skip); repeat' (first | refine gP ?_ | exact gPc | refine gN ?_ | exact gNc | (refine gI ?_ ?_ <;> intro hyp <;> first | refine goF ?_ | exact goFc | refine goT ?_ | exact goTc | skip))
      exact ⟨P3, hF3⟩
end Go.Proofs.YtjofjgflcogklaaDoor

namespace Go.Proofs.YtjofjgflcogklaaDoor
open Go Go.Abs
variable {h : Heap} {d b p w r s : Nat} {D : Dsk}
def strV (t : List UInt8) : AVal := .str t
theorem strV_eq (t : List UInt8) : strV t = .str t := rfl
def imageL (D : Dsk) : List (List UInt8) := D.s.map fun x => x.text.1
def Texts (h : Heap) (v : AVal) (l : List (List UInt8)) : Prop := ∃ id, v = .ref id 0 l.length 1 ∧ h.get id = some (.row true 1 false (flat (l.map strV)))
theorem cv_rw2 {g : Nat} {a : List AVal} {h hh : Heap} {v : AVal} (c : CV F g a h (fun u h' => u = v ∧ h' = hh)) (K : AVal → Heap → Prop) : CV F g a h K = K v hh := by
  obtain ⟨r, h', c, rfl, rfl⟩ := c
  have hc : GV F g a h = some (r, h') := GV_of c
  refine propext ⟨fun k => ?_, fun k => ⟨r, h', c, k⟩⟩
  obtain ⟨r2, h2, c2, k⟩ := k
  have hc2 : GV F g a h = some (r2, h2) := GV_of c2
  rw [hc] at hc2
  simp only [Option.some.injEq, Prod.mk.injEq] at hc2
  obtain ⟨rfl, rfl⟩ := hc2
  exact k
theorem cells_mp (i : Nat) : (AVal.mp i).cells = [.mp i] := _root_.id rfl
theorem one_mp (i : Nat) : (AVal.mp i).one = true := _root_.id rfl
theorem pd_fresh (h : Heap) {D : Dsk} (ok : D.ok) {lv : Int} (hl : LeftP lv D.left) {c c' : Nat} {es es' : List (Nat × AVal × AVal)} (p2 : MapIs es D.s.length (pendF D.s)) (w2 : MapIs es' D.s.length (wornF D.s)) :
    PD ((((h.push (.row true 64 true (flat (D.s.map blkV)))).push (.map (.int .i64) c es)).push (.map (.int .i64) c' es')).push (.row true 0 true [.ref h.next 0 D.s.length 64, .mp (h.next + 1), .mp (h.next + 1 + 1), .bool D.off, .int .i64 lv]))
      (h.next + 1 + 1 + 1) h.next (h.next + 1) (h.next + 1 + 1) D :=
  ⟨ok, ⟨lv, hl, get_push_eq (by simp only [push_next])⟩,
    by rw [get_push_ne (by simp only [push_next]; omega), get_push_ne (by simp only [push_next]; omega), get_push_ne (by simp only [push_next]; omega)]; exact get_push_eq rfl,
    ⟨c, es, by rw [get_push_ne (by simp only [push_next]; omega), get_push_ne (by simp only [push_next]; omega)]; exact get_push_eq (by simp only [push_next]), p2⟩,
    ⟨c', es', by rw [get_push_ne (by simp only [push_next]; omega)]; exact get_push_eq (by simp only [push_next]), w2⟩, by omega⟩
def freshD (n : Nat) : Dsk := ⟨List.replicate n ⟨zeroB, none, false⟩, false, none⟩
theorem freshD_ok {n : Nat} (h1 : 1 ≤ n) (h2 : n ≤ 4096) : (freshD n).ok := ⟨by simpa [freshD] using h1, by simpa [freshD] using h2, by simp [freshD]⟩
theorem nth_replicate {α : Type} [Inhabited α] (n : Nat) (x : α) {i : Nat} (hi : i < n) : nth (List.replicate n x) i = x := by simp [nth, List.getD_eq_getElem?_getD, hi]
theorem new_c (n : Int) (h : Heap) (hn : 1 ≤ n ∧ n ≤ 4096) : CV F 13 [.int .i64 n] h (fun v h' => ∃ d b p w, v = .tup [.ptr d 0, .int .i64 0] ∧ PD h' d b p w (freshD n.toNat) ∧ Fr (fun _ => False) h h' ∧ ∀ j, PS d b p w j → h.next ≤ j) := by
  obtain ⟨k, rfl⟩ : ∃ k : Nat, n = (k : Int) := ⟨n.toNat, by omega⟩
  have hR : repl k zerosV = flat ((List.replicate k (⟨zeroB, none, false⟩ : Sec)).map blkV) := repl_flat (f := blkV) (⟨zeroB, none, false⟩ : Sec) rfl _
  have hok := freshD_ok (n := k) (by omega) (by omega)
  have p2 : MapIs [] (freshD k).s.length (pendF (freshD k).s) := (mapIs_nil _).congr (fun i hi => by rw [pendF_at hi, freshD, nth_replicate _ _ (by simpa [freshD] using hi)]; rfl) (fun i hi => by unfold pendF; rw [if_neg (by omega)])
  have w2 : MapIs [] (freshD k).s.length (wornF (freshD k).s) := (mapIs_nil _).congr (fun i hi => by rw [wornF_at hi, freshD, nth_replicate _ _ (by simpa [freshD] using hi)]; rfl) (fun i hi => by unfold wornF; rw [if_neg (by omega)])
  have hP := pd_fresh h hok (lv := -1) (c := 0) (c' := 0) (by simp [LeftP, freshD]) p2 w2
  have hl : (freshD k).s.length = k := by simp [freshD]
  refine CV_wp (fn := c13) rfl ?_
  dsimp only [c13]
  simp only [z64]
  replace fx := aI @cells_mp (aI @one_mp (aI @zerosV_len @zerosV_one))
  (first | refine go ?_ | exact goC | skip); repeat' (first | refine gP ?_ | exact gPc | refine gN ?_ | exact gNc | (refine gI ?_ ?_ <;> intro hyp <;> first | refine goF ?_ | exact goFc | refine goT ?_ | exact goTc | skip))
  rw [hR]
  rw [hl] at hP
  exact ⟨_, _, _, _, rfl, hP, ((((Fr.refl _ _).push _).push _).push _).push _, by rintro j (rfl | rfl | rfl | rfl) <;> omega⟩
theorem new_bad (n : Int) (h : Heap) (hn : n < 1 ∨ 4096 < n) : CV F 13 [.int .i64 n] h (fun v h' => v = .tup [.nilptr, .int .i64 1] ∧ h' = h) := by
  refine CV_wp (fn := c13) rfl ?_
  dsimp only [c13]
  replace fx := Dum_eq
  (first | refine go ?_ | exact goC | skip); repeat' (first | refine gP ?_ | exact gPc | refine gN ?_ | exact gNc | (refine gI ?_ ?_ <;> intro hyp <;> first | refine goF ?_ | exact goFc | refine goT ?_ | exact goTc | skip))
end Go.Proofs.YtjofjgflcogklaaDoor

namespace Go.Abs
def GrN {α : Type} (h : Heap) (ty sz : Nat) (l : List α) (tk : Tok) : Prop := (l = [] ∧ tk = .nil) ∨ ∃ id, tk = .own id sz ∧ h.get id = some (.tok ty)
theorem GrN.nil {α : Type} (h : Heap) (ty sz : Nat) : GrN h ty sz ([] : List α) .nil := .inl ⟨rfl, rfl⟩
theorem GrN.lt {α : Type} {h : Heap} {ty sz : Nat} {l : List α} {tk : Tok} (g : GrN h ty sz l tk) {i s : Nat} (e : tk = .own i s) : i < h.next := by
  rcases g with ⟨_, rfl⟩ | ⟨id, rfl, g⟩
  · simp at e
  · simp only [Tok.own.injEq] at e; rw [← e.1]; exact get_lt g
theorem GrN.keep {α : Type} {h h' : Heap} {ty sz : Nat} {l : List α} {tk : Tok} (g : GrN h ty sz l tk) (k : ∀ i, h.get i = some (.tok ty) → (∃ s, tk = .own i s) → h'.get i = some (.tok ty)) : GrN h' ty sz l tk := by
  rcases g with g | ⟨id, rfl, g⟩
  · exact .inl g
  · exact .inr ⟨id, rfl, k id g ⟨_, rfl⟩⟩
theorem GrN.fr {α : Type} {S : Nat → Prop} {h h' : Heap} {ty sz : Nat} {l : List α} {tk : Tok} (g : GrN h ty sz l tk) (f : Fr S h h') (hS : ∀ i s, tk = .own i s → ¬ S i) : GrN h' ty sz l tk :=
  g.keep fun i hg ⟨s, e⟩ => f.get hg (hS i s e)
theorem append_N {α : Type} [Inhabited α] {f : α → AVal} {sz : Nat} {h : Heap} {ty bytes : Nat} {ag : Bool} {l : List α} {tk : Tok} {y : AVal} {ys : List α} (hf : ∀ x, (f x).cells.length = sz) (hm : ∀ x, mk ag (f x).cells = some (f x)) (hs : ∀ x, stripL (f x).cells = some (f x).cells)
    (hy : lenA y = some ys.length) (hn : elemsA h sz y = some (flat (ys.map f))) (hg : GrN h ty sz l tk) (hlen : l.length + ys.length ≤ 1000000) (hb : bytes ≤ 10000) (h0 : 0 < sz) (h1 : sz < 1000000) (hne : ys ≠ []) :
    ∃ h', appendA false ty bytes sz ag (.sl (l.map f) tk) y h = some (.sl ((l ++ ys).map f) (.own h.next sz), h') ∧ h'.next = h.next + 1 ∧ h'.get h.next = some (.tok ty) ∧ (∀ j, j < h.next → (∀ i s, tk = .own i s → j ≠ i) → h'.get j = h.get j) :=
  append_own hf hm hs hy hn (by rcases hg with ⟨_, e⟩ | g; exact .inl e; exact .inr g) (by rcases hg with ⟨e, _⟩ | ⟨i, e, _⟩; exact fun _ => e; rw [e]; simp) hlen hb h0 h1 hne
theorem GrN.ne {α : Type} {h : Heap} {ty sz : Nat} {l : List α} {tk : Tok} (g : GrN h ty sz l tk) {j : Nat} {o : Obj} (hj : h.get j = some o) (ho : o ≠ .tok ty) : ∀ i s, tk = .own i s → j ≠ i := by
  rintro i s e rfl
  rcases g with ⟨_, rfl⟩ | ⟨id, rfl, g⟩
  · simp at e
  · simp only [Tok.own.injEq] at e; rw [e.1, hj] at g; exact ho (Option.some.inj g)
theorem GrN.strip {α : Type} {h : Heap} {ty sz : Nat} {l : List α} {tk : Tok} (g : GrN h ty sz l tk) (f : α → AVal) : ∃ u, Pt u ∧ Go.Abs.strip (.sl (l.map f) tk) = some (.sl (l.map f) u) := by
  rcases g with ⟨_, rfl⟩ | ⟨id, rfl, _⟩
  · exact ⟨.nil, .inr rfl, rfl⟩
  · exact ⟨.none, .inl rfl, rfl⟩
theorem slice_o_a {α : Type} [Inhabited α] (f : α → AVal) (l : List α) {sz i s : Nat} (k : IntKind) (a : Int) (h0 : 0 ≤ a) (h2 : a ≤ l.length) (hf : ∀ x, (f x).cells.length = sz) : sliceA sz (.sl (l.map f) (.own i s)) (some (.int k a)) none = some (.sl ((l.drop a.toNat).map f) .none) := by
  have ha : boundA (some (.int k a)) 0 l.length = some a.toNat := boundA_int k a _ _ h0 h2
  simp only [sliceA, List.length_map, ha, boundA_none]
  rw [if_pos]
  · rw [← List.map_drop, ← List.map_take, List.take_of_length_le (by simp)]; rfl
  · refine ⟨fun x hx => ?_, by simp⟩
    cases l with
    | nil => simp at hx
    | cons y l => simp at hx; subst hx; exact hf y
end Go.Abs
namespace Go.Proofs.YtjofjgflcogklaaDoor
open Go Go.Abs Go.Sha Go.Jn
def conts (D : Dsk) : List Bs := D.s.map fun x => (x.next.getD x.text).1
theorem conts_len (D : Dsk) : (conts D).length = D.s.length := by simp [conts]
theorem nth_conts (D : Dsk) {k : Nat} (hk : k < D.s.length) : nth (conts D) k = ((nth D.s k).next.getD (nth D.s k).text).1 := by
  rw [nth_eq (by rw [conts_len]; exact hk), nth_eq hk]; simp [conts]
theorem conts_64 (D : Dsk) {k : Nat} (hk : k < D.s.length) : (nth (conts D) k).length = 64 := by
  rw [nth_conts D hk]; exact ((nth D.s k).next.getD (nth D.s k).text).2
theorem read_conts (D : Dsk) (ho : D.off = false) {k : Nat} (hk : k < D.s.length) : D.read (k : Int) = (nth (conts D) k, 0) := by
  rw [Dsk.read, ho, if_neg (by simp), if_neg (by omega), nth_conts D hk]; simp
theorem read_off (D : Dsk) (ho : D.off = true) (k : Int) : D.read k = ([], 21) := by rw [Dsk.read, ho, if_pos rfl]
structure JT (h : Heap) (t1 t2 t3 : Tok) (J : Jst) : Prop where
  g1 : GrN h 3 1 J.nums t1
  g2 : GrN h 3 1 J.bad t2
  g3 : GrN h 9 1 J.texts t3
  ne : ∀ i s s', t1 = .own i s → t2 ≠ .own i s'
def TS (t1 t2 t3 : Tok) (i : Nat) : Prop := (∃ s, t1 = .own i s) ∨ (∃ s, t2 = .own i s) ∨ ∃ s, t3 = .own i s
theorem JT.fr {S : Nat → Prop} {h h' : Heap} {t1 t2 t3 : Tok} {J : Jst} (g : JT h t1 t2 t3 J) (f : Fr S h h') (hS : ∀ i, TS t1 t2 t3 i → ¬ S i) : JT h' t1 t2 t3 J :=
  ⟨g.g1.fr f fun i s e => hS i (.inl ⟨s, e⟩), g.g2.fr f fun i s e => hS i (.inr (.inl ⟨s, e⟩)), g.g3.fr f fun i s e => hS i (.inr (.inr ⟨s, e⟩)), g.ne⟩
theorem JT.lt {h : Heap} {t1 t2 t3 : Tok} {J : Jst} (g : JT h t1 t2 t3 J) {i : Nat} (q : TS t1 t2 t3 i) : i < h.next := by
  rcases q with ⟨s, e⟩ | ⟨s, e⟩ | ⟨s, e⟩
  · exact g.g1.lt e
  · exact g.g2.lt e
  · exact g.g3.lt e
structure PJ (h : Heap) (j d : Nat) (t1 t2 t3 : Tok) (J : Jst) : Prop where
  row : h.get j = some (.row true 0 true [.ptr d 0, .sl (J.nums.map intN) t1, .sl (J.bad.map intN) t2, .sl (J.texts.map strV) t3, .int .i64 (J.next : Int), .int .i64 (J.fin : Int), .bool J.closed])
  tk : JT h t1 t2 t3 J
structure RJ (h : Heap) (j r : Nat) (t1 t2 t3 : Tok) (J : Jst) : Prop where
  row : h.get j = some (.row true 0 true [.ptr r 0, .sl (J.nums.map intN) t1, .sl (J.texts.map strV) t3, .sl (J.bad.map intN) t2, .int .i64 (J.next : Int), .int .i64 (J.fin : Int), .bool J.closed])
  tk : JT h t1 t2 t3 J
def JS (j : Nat) (t1 t2 t3 : Tok) (i : Nat) : Prop := i = j ∨ TS t1 t2 t3 i
theorem PJ.fr {S : Nat → Prop} {h h' : Heap} {j d : Nat} {t1 t2 t3 : Tok} {J : Jst} (g : PJ h j d t1 t2 t3 J) (f : Fr S h h') (hS : ∀ i, JS j t1 t2 t3 i → ¬ S i) : PJ h' j d t1 t2 t3 J :=
  ⟨f.get g.row (hS _ (.inl rfl)), g.tk.fr f fun i q => hS i (.inr q)⟩
theorem RJ.fr {S : Nat → Prop} {h h' : Heap} {j d : Nat} {t1 t2 t3 : Tok} {J : Jst} (g : RJ h j d t1 t2 t3 J) (f : Fr S h h') (hS : ∀ i, JS j t1 t2 t3 i → ¬ S i) : RJ h' j d t1 t2 t3 J :=
  ⟨f.get g.row (hS _ (.inl rfl)), g.tk.fr f fun i q => hS i (.inr q)⟩
theorem PJ.lt {h : Heap} {j d : Nat} {t1 t2 t3 : Tok} {J : Jst} (g : PJ h j d t1 t2 t3 J) {i : Nat} (q : JS j t1 t2 t3 i) : i < h.next := by
  rcases q with rfl | q
  · exact get_lt g.row
  · exact g.tk.lt q
theorem RJ.lt {h : Heap} {j d : Nat} {t1 t2 t3 : Tok} {J : Jst} (g : RJ h j d t1 t2 t3 J) {i : Nat} (q : JS j t1 t2 t3 i) : i < h.next := by
  rcases q with rfl | q
  · exact get_lt g.row
  · exact g.tk.lt q
theorem heads_recs (l : List Bs) (k : Nat) : (heads l k).recs = [] := (heads_next l k).2.2.2.2
theorem heads_nums (l : List Bs) (k : Nat) : (heads l k).nums = [] := by rw [Jst.nums, heads_recs]; rfl
theorem heads_texts (l : List Bs) (k : Nat) : (heads l k).texts = [] := by rw [Jst.texts, heads_recs]; rfl
theorem heads_bad (l : List Bs) (k : Nat) : (heads l k).bad.length ≤ k ∧ ∀ i ∈ (heads l k).bad, i < k := by
  induction k with
  | zero => simp [heads]
  | succ k ih =>
    simp only [heads, scanSec]
    split
    · refine ⟨by simp; omega, fun i hi => ?_⟩
      rcases List.mem_append.1 hi with h | h
      · have := ih.2 i h; omega
      · simp at h; omega
    · exact ⟨by omega, fun i hi => by have := ih.2 i hi; omega⟩
theorem blank_iff (s : Bs) (h : s.length = 64) : s = List.replicate 64 0 ↔ Jn.blank s = true := by
  rw [Jn.blank, List.all_eq_true]
  constructor
  · intro e x hx
    rw [e] at hx
    simp [(List.mem_replicate.1 hx).2]
  · intro e
    refine List.ext_getElem (by rw [h]; simp) fun i h1 h2 => ?_
    rw [List.getElem_replicate]
    simpa using e _ (List.getElem_mem h1)
theorem intN_len (n : Nat) : (intN n).cells.length = 1 := rfl
theorem strV_len (s : Bs) : (strV s).cells.length = 1 := rfl
theorem partV_strip (o : Option Prt) : stripL (partV o).cells = some (partV o).cells := by cases o <;> rfl
theorem partV_mk (o : Option Prt) : mk true (partV o).cells = some (partV o) := by cases o <;> rfl
theorem contains_n (l : List Nat) (n : Nat) (hl : l.length ≤ 1000000) (t : Tok) (ht : Pt t) : PV F 35 [.sl (l.map intN) t, .int .i64 (n : Int)] = some (.bool (decide (n ∈ l))) := by
  have := contains_v (l.map fun i : Nat => (i : Int)) n (by simpa using hl) t ht
  rw [List.map_map] at this
  rw [show l.map intN = l.map (AVal.int .i64 ∘ fun i : Nat => (i : Int)) from rfl, this]
  congr 2
  have : (n : Int) ∈ l.map (fun i : Nat => (i : Int)) ↔ n ∈ l := by
    rw [List.mem_map]
    exact ⟨fun ⟨x, hx, e⟩ => by rwa [← Int.ofNat.inj e], fun hx => ⟨n, hx, rfl⟩⟩
  exact decide_eq_decide.2 this
theorem partV_facts (o : Option Prt) : (partV o).cells.length = 5 ∧ (partV o).cells.all AVal.one = true ∧ ((partV o).cells.drop 4).take 1 = [.bool o.isSome] ∧ (partV o).cells.take 1 = [.int .i64 (numO o : Int)] ∧ True ∧
    ∀ H, litA 0 65 1 5 true [.int .i64 0, .int .i64 0, .int .i64 0, .str [], .bool false] (some (partV o).cells) H = some (.sl (([o] : List (Option Prt)).map partV) .none, H) := by
  cases o with
  | none => exact ⟨rfl, rfl, rfl, rfl, trivial, fun H => lit_none rfl rfl rfl rfl⟩
  | some q => exact ⟨rfl, rfl, rfl, rfl, trivial, fun H => lit_none rfl rfl rfl rfl⟩
theorem record_facts {ps : List (Option Prt)} (hp : ∀ o ∈ ps, POk o) {q nm c : Nat} {tx : Bs} (h : record (ps.drop q) = some (nm, c, tx)) : 1 ≤ c ∧ q + c ≤ ps.length ∧ tx.length ≤ 8016 ∧ ∃ p, nth ps q = some p ∧ p.number = nm := by
  have hq : q < ps.length := by
    apply Classical.byContradiction
    intro hn
    rw [List.drop_eq_nil_of_le (by omega)] at h
    simp [record] at h
  rw [List.drop_eq_getElem_cons hq] at h
  cases ho : ps[q] with
  | none => rw [ho] at h; simp [record] at h
  | some p =>
    rw [ho] at h
    have hl := hp (some p) (by rw [← ho]; exact List.getElem_mem hq) p rfl
    have hc1 := count_pos p.left hl.1
    have hc2 := count_le p.left
    simp only [record] at h
    split at h
    · rename_i hcond
      simp only [Option.some.injEq, Prod.mk.injEq] at h
      obtain ⟨e1, e2, e3⟩ := h
      simp only [Bool.and_eq_true, decide_eq_true_eq, List.length_cons, List.length_drop] at hcond
      refine ⟨by omega, by omega, ?_, p, by rw [nth_eq hq, ho], e1⟩
      rw [← e3]
      have := textOf_len (some p :: ps.drop (q + 1)) (fun o ho' => by
        rcases List.mem_cons.1 ho' with rfl | ho'
        · exact hp _ (by rw [← ho]; exact List.getElem_mem hq)
        · exact hp _ (List.mem_of_mem_drop ho')) (count p.left)
      omega
    · simp at h
variable {h : Heap} {d b p w : Nat} {D : Dsk}
theorem openOff_c (P : PD h d b p w D) (ho : D.off = true) : CV F 15 [.ptr d 0] h (fun v h' => v = .tup [.nilptr, .int .i64 21] ∧ PD h' d b p w D ∧ Fr (fun _ => False) h h') := by
  have hpos := P.ok.pos
  have hlen := P.ok.len
  refine CV_wp (fn := c15) rfl ?_
  dsimp only [c15]
  have f1 : ∀ o, Fr (fun _ => False) h (h.push o) := fun o => (Fr.refl _ _).push o
  have P1 : ∀ o, PD (h.push o) d b p w D := fun o => P.fr (f1 o) (fun _ _ q => q)
  have L := fun o => cv_rw (len_c (P1 o))
  have r0 := read_off D ho
  replace fx := @L
  (first | refine go ?_ | exact goC | skip); repeat' (first | refine gP ?_ | exact gPc | refine gN ?_ | exact gNc | (refine gI ?_ ?_ <;> intro hyp <;> first | refine goF ?_ | exact goFc | refine goT ?_ | exact goTc | skip))
  refine w_loop_once ?_
  replace fx := Dum_eq
  (first | refine go ?_ | exact goC | skip); repeat' (first | refine gP ?_ | exact gPc | refine gN ?_ | exact gNc | (refine gI ?_ ?_ <;> intro hyp <;> first | refine goF ?_ | exact goFc | refine goT ?_ | exact goTc | skip))
  refine CV_mono (read_c (P1 _) _) ?_
  rintro v h2 ⟨rfl, P2, f2⟩
  replace fx := @r0
  (first | refine go ?_ | exact goC | skip); repeat' (first | refine gP ?_ | exact gPc | refine gN ?_ | exact gNc | (refine gI ?_ ?_ <;> intro hyp <;> first | refine goF ?_ | exact goFc | refine goT ?_ | exact goTc | skip))
  exact ⟨P2, (f1 _).trans f2⟩
theorem open_c (P : PD h d b p w D) (ho : D.off = false) : CV F 15 [.ptr d 0] h (fun v h' => ∃ j t1 t2 t3, v = .tup [.ptr j 0, .int .i64 0] ∧ PJ h' j d t1 t2 t3 (openJ (conts D)) ∧ PD h' d b p w D ∧ Fr (fun _ => False) h h' ∧ ∀ i, JS j t1 t2 t3 i → h.next ≤ i) := by
  have hpos := P.ok.pos
  have hlen := P.ok.len
  refine CV_wp (fn := c15) rfl ?_
  dsimp only [c15]
  rw [ck64, z64]
  have f1 : ∀ o, Fr (fun _ => False) h (h.push o) := fun o => (Fr.refl _ _).push o
  have P1 : ∀ o, PD (h.push o) d b p w D := fun o => P.fr (f1 o) (fun _ _ q => q)
  have L := fun o => cv_rw (len_c (P1 o))
  have cl := conts_len D
  obtain ⟨cs, hcs⟩ : ∃ cs, cs = conts D := ⟨_, rfl⟩
  obtain ⟨ps, hps⟩ : ∃ ps, ps = cs.map unpack := ⟨_, rfl⟩
  have pl : ps.length = D.s.length := by rw [hps, List.length_map, hcs, cl]
  replace fx := @L
  (first | refine go ?_ | exact goC | skip); repeat' (first | refine gP ?_ | exact gPc | refine gN ?_ | exact gNc | (refine gI ?_ ?_ <;> intro hyp <;> first | refine goF ?_ | exact goFc | refine goT ?_ | exact goTc | skip))
  obtain ⟨j, hj⟩ : ∃ j, j = h.next := ⟨_, rfl⟩
  rw [← hj]
  refine w_loop (fun m vs h' => ∃ (k : Nat) (tk t2 : Tok) (x1 x2 x3 x4 x5 x6 x7 x8 x9 x10 x11 x12 x13 x14 x15 : AVal), m = D.s.length - k ∧ k ≤ D.s.length ∧ vs = [.ptr d 0, x1, x2, .ptr j 0, .sl ((ps.take k).map partV) tk, x3, x4, x5, x6, x7, x8, x9, x10, x11, .int .i64 (D.s.length : Int), .int .i64 (k : Int), x12, x13, x14, x15, .tup [], .tup [], .tup []] ∧
      PJ h' j d .nil t2 .nil (heads cs k) ∧ GrN h' 65 5 (ps.take k) tk ∧ PD h' d b p w D ∧ Fr (fun _ => False) h h' ∧ (∀ i s, tk = .own i s → h.next ≤ i) ∧ (∀ i s, t2 = .own i s → h.next ≤ i)) D.s.length
    ⟨0, .nil, .nil, _, _, _, _, _, _, _, _, _, _, _, _, _, _, _, rfl, by omega, rfl, ⟨get_push_eq hj, ⟨GrN.nil _ _ _, GrN.nil _ _ _, GrN.nil _ _ _, by simp⟩⟩, GrN.nil _ _ _, P1 _, f1 _, by simp, by simp⟩ ?_
  rintro m vs h1 ⟨k, tk, t2, x1, x2, x3, x4, x5, x6, x7, x8, x9, x10, x11, x12, x13, x14, x15, rfl, hk, rfl, PJ1, G1, P2, f2, u1, u2⟩
  by_cases hkn : k < D.s.length
  · replace fx := Dum_eq
    (first | refine go ?_ | exact goC | skip); repeat' (first | refine gP ?_ | exact gPc | refine gN ?_ | exact gNc | (refine gI ?_ ?_ <;> intro hyp <;> first | refine goF ?_ | exact goFc | refine goT ?_ | exact goTc | skip))
    refine CV_mono (read_c P2 _) ?_
    rintro v h2 ⟨rfl, P3, f3⟩
    have hread := read_conts D ho hkn
    have s64 := conts_64 D hkn
    rw [← hcs] at hread s64
    have hpk : nth ps k = unpack (nth cs k) := by
      rw [nth_eq (by omega), nth_eq (by rw [hcs, cl]; exact hkn)]; simp [hps]
    have htk : ps.take (k + 1) = ps.take k ++ [nth ps k] := by
      rw [List.take_succ_eq_append_getElem (by omega), nth_eq (by omega)]
    have PJ2 := PJ1.fr f3 (fun _ _ q => q)
    have G2 := G1.fr f3 (fun _ _ _ q => q)
    have f23 := f2.trans f3
    have hup := unpack_v (nth cs k) (by omega)
    rw [hpk] at htk
    have hok := unpack_ok (nth cs k)
    obtain ⟨hn1, hn2, hn3, hn4, hn5⟩ := heads_next cs k
    have hJ : heads cs (k + 1) = scanSec (heads cs k) k (nth cs k) := rfl
    obtain ⟨J, hJJ⟩ : ∃ J, J = heads cs k := ⟨_, rfl⟩
    obtain ⟨J', hJJ'⟩ : ∃ J', J' = heads cs (k + 1) := ⟨_, rfl⟩
    have jn := heads_nums cs k
    have jt := heads_texts cs k
    have jn' := heads_nums cs (k + 1)
    have jt' := heads_texts cs (k + 1)
    have jb := (heads_bad cs k).1
    have hbi := blank_iff (nth cs k) s64
    have hr1 : (D.read (k : Int)).1 = nth cs k := by rw [hread]
    have hr2 : (D.read (k : Int)).2 = 0 := by rw [hread]
    obtain ⟨s, hs⟩ : ∃ s, s = nth cs k := ⟨_, rfl⟩
    rw [← hJJ] at hn1 hn2 hn3 hn4 hn5 hJ jn jt jb PJ2
    rw [← hJJ'] at hJ jn' jt'
    rw [← hs] at hr1 s64 htk hup hok hJ hbi
    have tk64 : s.take 64 = s := List.take_of_length_le (by omega)
    have ceq : cellsEq cks (s.map byteV) zerosV = some (decide (s = List.replicate 64 0)) := by
      have := cells_bytes s (List.replicate 64 0) (by rw [s64]; simp)
      rw [s64] at this
      exact this
    obtain ⟨prow, ptk⟩ := PJ2
    obtain ⟨o, ho⟩ : ∃ o, o = unpack s := ⟨_, rfl⟩
    rw [← ho] at hup htk hok
    obtain ⟨c1, c2, c3, c4, c5, c6⟩ := partV_facts o
    obtain ⟨C, hC⟩ : ∃ C, C = (partV o).cells := ⟨_, rfl⟩
    have lit5 : ∀ H, litA 0 65 1 5 true [.int .i64 0, .int .i64 0, .int .i64 0, .str [], .bool false] (some C) H = some (.sl (([o] : List (Option Prt)).map partV) .none, H) := by
      intro H; rw [hC]; exact c6 H
    rw [← hC] at c1 c2 c3 c4
    have hag : partV o = .agg C := by rw [hC]; cases o <;> rfl
    have hsc : setCells [.int .i64 0, .int .i64 0, .int .i64 0, .str [], .bool false] 0 C = C := setCells_all _ _ (by rw [c1]; rfl)
    have ctk : C.take 5 = C := List.take_of_length_le (by omega)
    replace fx := aI @hr1 (aI @hr2 (aI @hup (aI @hag (aI @c1 (aI @c2 (aI @hsc (aI @ctk @lit5)))))))
    (first | refine go ?_ | exact goC | skip); repeat' (first | refine gP ?_ | exact gPc | refine gN ?_ | exact gNc | (refine gI ?_ ?_ <;> intro hyp <;> first | refine goF ?_ | exact goFc | refine goT ?_ | exact goTc | skip))
    obtain ⟨R, hR⟩ : ∃ R, R = Obj.row true (typed 65) true C := ⟨_, rfl⟩
    obtain ⟨h3, hh3⟩ : ∃ h3, h3 = h2.push R := ⟨_, rfl⟩
    have f4 : Fr (fun _ => False) h2 h3 := by rw [hh3]; exact (Fr.refl _ _).push _
    have n3 : h3.next = h2.next + 1 := by rw [hh3]; rfl
    have a3 : h3.get h2.next = some R := by rw [hh3]; exact get_push_eq rfl
    rw [← hR, ← hag, ← hh3]
    have row3 := f4.get prow (fun q => q)
    have G3 := G2.fr f4 (fun _ _ _ q => q)
    have T3 := ptk.fr f4 (fun _ _ q => q)
    have P4 := P3.fr f4 (fun _ _ q => q)
    obtain ⟨h4, e4, n4, k4, o4⟩ := append_N (bytes := 48) (y := .sl ([o].map partV) .none) (ys := [o]) partV_len partV_mk partV_strip lenA_sl (elems_sl partV_len) G3 (by rw [List.length_take]; simp; omega) (by omega) (by omega) (by omega) (by simp)
    rw [← htk] at e4
    simp only [List.map_cons, List.map_nil] at e4
    have l3 := get_lt row3
    have row4 : h4.get j = _ := (o4 j (by omega) (G3.ne row3 (by simp))).trans row3
    have a4 : h4.get h2.next = some R := (o4 _ (by omega) (G3.ne a3 (by rw [hR]; simp))).trans a3
    rw [hR] at a4
    have G4 : GrN h4 65 5 (ps.take (k + 1)) (.own h3.next 5) := .inr ⟨_, rfl, k4⟩
    have g4 : GrN h4 3 1 J.bad t2 := T3.g2.keep fun i hg hs' => (o4 i (get_lt hg) (G3.ne hg (by simp))).trans hg
    have fr4 : Fr (fun i => ∃ s, tk = .own i s) h3 h4 := ⟨by omega, fun i hi hn => o4 i hi (fun i' s' e' => by rintro rfl; exact hn ⟨s', e'⟩)⟩
    have P5 : PD h4 d b p w D := P4.fr fr4 (fun i hi => by
      rintro ⟨s', e'⟩
      obtain ⟨_, ⟨_, _, q1⟩, q2, ⟨_, _, q3, _⟩, ⟨_, _, q4, _⟩, _⟩ := P4
      rcases hi with rfl | rfl | rfl | rfl
      · exact G3.ne q1 (by simp) _ _ e' rfl
      · exact G3.ne q2 (by simp) _ _ e' rfl
      · exact G3.ne q3 (by simp) _ _ e' rfl
      · exact G3.ne q4 (by simp) _ _ e' rfl)
    have F4 : Fr (fun _ => False) h h4 := ⟨by have := f23.1; have := f4.1; omega, fun i hi _ => by
      have hlt := f23.1
      rw [fr4.2 i (by have := f4.1; omega) (fun ⟨s', e'⟩ => by have := u1 i s' e'; omega), f4.2 i (by omega) (fun q => q)]; exact f23.2 i hi (fun q => q)⟩
    have stk : (s.map byteV).take 64 = s.map byteV := List.take_of_length_le (by rw [List.length_map]; omega)
    have hnO : numO o ≤ 4096 := by
      cases o with
      | none => simp [numO]
      | some q => exact (hok q rfl).2.2.1
    have mxn : max (J.next : Int) ((numO o : Int) + 1) = ((max J.next (numO o + 1) : Nat) : Int) := by omega
    have hb' : J'.bad = if o.isNone && !Jn.blank s then J.bad ++ [k] else J.bad := by rw [hJ, ho]; rfl
    have hf' : J'.fin = if Jn.blank s then J.fin else k + 1 := by rw [hJ]; rfl
    have hx' : J'.next = max J.next (numO o + 1) := by rw [hJ, ho]; rfl
    have hc' : J'.closed = false := by rw [hJ]; exact hn4
    rw [jn, jt, hn4] at row4
    have ho3 : o.isNone = !o.isSome := by cases o <;> rfl
    rw [ho3] at hb'
    have ljr := get_lt row4
    have ja : j ≠ h2.next := by have := get_lt prow; omega
    have lP := P.lt
    have fin : ∀ (hf : Heap) (t2' : Tok), h4.next ≤ hf.next → (∀ i, i < h4.next → i ≠ j → (∀ i' s', t2 = .own i' s' → i ≠ i') → hf.get i = h4.get i) →
        hf.get j = some (.row true 0 true [.ptr d 0, .sl [] .nil, .sl (J'.bad.map intN) t2', .sl [] .nil, .int .i64 (J'.next : Int), .int .i64 (J'.fin : Int), .bool false]) → GrN hf 3 1 J'.bad t2' → (∀ i s, t2' = .own i s → h.next ≤ i) →
        PJ hf j d .nil t2' .nil (heads cs (k + 1)) ∧ GrN hf 65 5 (ps.take (k + 1)) (.own h3.next 5) ∧ PD hf d b p w D ∧ Fr (fun _ => False) h hf ∧ (∀ i s, (Tok.own h3.next 5) = .own i s → h.next ≤ i) ∧ ∀ i s, t2' = .own i s → h.next ≤ i := by
      intro hf t2' q1 q2 q3 q4 q5
      rw [← hJJ']
      have F5 : Fr (fun i => i = j ∨ ∃ s, t2 = .own i s) h4 hf := ⟨q1, fun i hi hn => q2 i hi (fun e => hn (.inl e)) (fun i' s' e e' => hn (.inr ⟨s', by rw [e']; exact e⟩))⟩
      refine ⟨⟨?_, ?_, q4, ?_, by simp⟩, .inr ⟨_, rfl, ?_⟩, P5.fr F5 ?_, ⟨by have := F4.1; omega, fun i hi _ => ?_⟩, ?_, q5⟩
      · rw [jn', jt', hc']; exact q3
      · rw [jn']; exact GrN.nil _ _ _
      · rw [jt']; exact GrN.nil _ _ _
      · rw [q2 _ (get_lt k4) (by omega) (fun i' s' e => g4.ne k4 (by simp) i' s' e)]; exact k4
      · rintro i hi (rfl | ⟨s', e⟩)
        · have := lP _ hi; omega
        · have := lP _ hi; have := u2 _ _ e; omega
      · rw [q2 i (by have := F4.1; omega) (by omega) (fun i' s' e e' => by have := u2 _ _ e; omega)]; exact F4.2 i hi (fun q => q)
      · intro i s' e
        simp only [Tok.own.injEq] at e
        have := f23.1; omega
    have lj4 : ∀ (x : Option Abs.Obj) i, i ≠ j → (h4.put j x).get i = h4.get i := fun x i hi => get_put_ne hi
    have g5 : ∀ x, GrN (h4.put j x) 3 1 J.bad t2 := fun x => g4.keep fun i hg _ => by rw [get_put_ne (by rintro rfl; rw [row4] at hg; simp at hg)]; exact hg
    by_cases hbk : s = List.replicate 64 0
    · rw [hbi.1 hbk] at hb' hf'
      simp only [Bool.not_true, Bool.and_false, Bool.false_eq_true, if_false, if_true] at hb' hf'
      replace fx := aI @e4 (aI @s64 (aI @tk64 (aI @stk (aI @ceq (aI @zerosV_len (aI (eq_true hbk) (aI @row4 (aI @a4 (aI @c1 (aI @c3 (aI @c4 (aI @XW_mnxK (aI @mnx_max @mxn)))))))))))))
      (first | refine go ?_ | exact goC | skip); repeat' (first | refine gP ?_ | exact gPc | refine gN ?_ | exact gNc | (refine gI ?_ ?_ <;> intro hyp <;> first | refine goF ?_ | exact goFc | refine goT ?_ | exact goTc | skip))
      all_goals exact lp_n ⟨_, by omega, k + 1, _, t2, _, _, _, _, _, _, _, _, _, _, _, _, _, _, _, rfl, by omega, by push_cast; rfl, fin _ t2 (Nat.le_of_eq (put_next _ _ _).symm) (fun i _ hi _ => lj4 _ i hi) (by rw [hb', hf', hx']; exact get_put_old row4) (by rw [hb']; exact g5 _) u2⟩
    · rw [Bool.eq_false_iff.2 (fun q => hbk (hbi.2 q))] at hb' hf'
      simp only [Bool.not_false, Bool.and_true, Bool.false_eq_true, if_false] at hb' hf'
      cases hs' : o.isSome with
      | true =>
        rw [hs'] at hb' c3
        simp only [Bool.not_true, Bool.false_eq_true, if_false] at hb'
        have pp : ∀ x y, ((h4.put j (some x)).put j y).get j = y := fun x y => get_put_old (get_put_old row4)
        have g6 : ∀ x y, GrN ((h4.put j x).put j y) 3 1 J.bad t2 := fun x y => g4.keep fun i hg _ => by
          have hne : i ≠ j := by rintro rfl; rw [row4] at hg; simp at hg
          rw [get_put_ne hne, get_put_ne hne]; exact hg
        replace fx := aI @e4 (aI @s64 (aI @tk64 (aI @stk (aI @ceq (aI @zerosV_len (aI (eq_false hbk) (aI @row4 (aI @pp (aI @a4 (aI @c1 (aI @c3 (aI @c4 (aI @XW_mnxK (aI @mnx_max @mxn))))))))))))))
        (first | refine go ?_ | exact goC | skip); repeat' (first | refine gP ?_ | exact gPc | refine gN ?_ | exact gNc | (refine gI ?_ ?_ <;> intro hyp <;> first | refine goF ?_ | exact goFc | refine goT ?_ | exact goTc | skip))
        exact lp_n ⟨_, by omega, k + 1, _, t2, _, _, _, _, _, _, _, _, _, _, _, _, _, _, _, rfl, by omega, by push_cast; rfl, fin _ t2 (Nat.le_of_eq ((put_next _ _ _).trans (put_next _ _ _)).symm) (fun i _ hi _ => (get_put_ne hi).trans (get_put_ne hi)) (by rw [hb', hf', hx', Int.natCast_add]; exact pp _ _) (by rw [hb']; exact g6 _ _) u2⟩
      | false =>
        rw [hs'] at hb' c3
        simp only [Bool.not_false, if_true] at hb'
        have lb : ∀ H, litA 0 3 1 1 false [.int .i64 0] (some [.int .i64 (k : Int)]) H = some (.sl (([k] : List Nat).map intN) .none, H) := fun H => lit_none rfl rfl rfl rfl
        replace fx := aI @e4 (aI @s64 (aI @tk64 (aI @stk (aI @ceq (aI @zerosV_len (aI (eq_false hbk) (aI @row4 (aI @a4 (aI @c1 (aI @c3 (aI @c4 (aI @XW_mnxK (aI @mnx_max (aI @mxn @lb))))))))))))))
        (first | refine go ?_ | exact goC | skip); repeat' (first | refine gP ?_ | exact gPc | refine gN ?_ | exact gNc | (refine gI ?_ ?_ <;> intro hyp <;> first | refine goF ?_ | exact goFc | refine goT ?_ | exact goTc | skip))
        obtain ⟨R1, hR1⟩ : ∃ R1, R1 = Obj.row true 0 true [.ptr d 0, .sl [] .nil, .sl (J.bad.map intN) t2, .sl [] .nil, .int .i64 (J.next : Int), .int .i64 ((k : Int) + 1), .bool false] := ⟨_, rfl⟩
        obtain ⟨h6, e6, n6, k6, o6⟩ := append_N (bytes := 8) (ag := false) (f := intN) (y := .sl ([k].map intN) .none) (ys := [k]) intN_len (fun _ => rfl) (fun _ => rfl) lenA_sl (elems_sl intN_len) (g5 (some R1)) (by simp; omega) (by omega) (by omega) (by omega) (by simp)
        simp only [List.map_cons, List.map_nil] at e6
        rw [put_next] at n6 k6 o6 e6
        have gj : (h4.put j (some R1)).get j = some R1 := get_put_old row4
        have row6 : h6.get j = some R1 := (o6 j ljr ((g5 (some R1)).ne gj (by rw [hR1]; simp))).trans gj
        have a6 : h6.get h2.next = h4.get h2.next := (o6 _ (get_lt a4) ((g5 (some R1)).ne ((get_put_ne (Ne.symm ja)).trans a4) (by simp))).trans (get_put_ne (Ne.symm ja))
        rw [a4] at a6
        rw [← hR1]
        rw [hR1] at row6
        have pp : ∀ x y, ((h6.put j (some x)).put j y).get j = y := fun x y => get_put_old (get_put_old row6)
        replace fx := aI @e6 (aI @row6 (aI @pp (aI @a6 (aI @c1 (aI @c3 (aI @c4 (aI @XW_mnxK (aI @mnx_max @mxn))))))))
        (first | refine go ?_ | exact goC | skip); repeat' (first | refine gP ?_ | exact gPc | refine gN ?_ | exact gNc | (refine gI ?_ ?_ <;> intro hyp <;> first | refine goF ?_ | exact goFc | refine goT ?_ | exact goTc | skip))
        refine lp_n ⟨_, by omega, k + 1, _, .own h4.next 1, _, _, _, _, _, _, _, _, _, _, _, _, _, _, _, rfl, by omega, by push_cast; rfl, fin _ (.own h4.next 1) (by rw [put_next, put_next]; omega) (fun i h1' hi h2' => ((get_put_ne hi).trans (get_put_ne hi)).trans ((o6 i h1' h2').trans (get_put_ne hi))) (by rw [hb', hf', hx', Int.natCast_add]; exact pp _ _) ?_ ?_⟩
        · rw [hb']
          exact .inr ⟨_, rfl, by rw [get_put_ne (by omega), get_put_ne (by omega)]; exact k6⟩
        · intro i s' e
          simp only [Tok.own.injEq] at e
          have := F4.1; omega
  · have e : k = D.s.length := by omega
    subst e
    have ept : ps.take D.s.length = ps := List.take_of_length_le (by omega)
    rw [ept] at G1 ⊢
    obtain ⟨a, rfl, ga⟩ : ∃ a, tk = .own a 5 ∧ h1.get a = some (.tok 65) := by
      rcases G1 with ⟨e, _⟩ | G1
      · rw [e] at pl; simp at pl; omega
      · exact G1
    obtain ⟨J, hJ⟩ : ∃ J, J = heads cs D.s.length := ⟨_, rfl⟩
    have hop : openJ (conts D) = { J with recs := scanS ps 0 [] } := by rw [openJ, ← hcs, ← hps, hcs, cl, ← hcs, hJ]
    have jr := heads_recs cs D.s.length
    rw [← hJ] at PJ1 jr
    have hJ0 : J = { J with recs := [] } := by rw [← jr]
    obtain ⟨bl1, bl2⟩ := heads_next cs D.s.length
    rw [← hJ] at bl1 bl2
    replace fx := Dum_eq
    (first | refine go ?_ | exact goC | skip); repeat' (first | refine gP ?_ | exact gPc | refine gN ?_ | exact gNc | (refine gI ?_ ?_ <;> intro hyp <;> first | refine goF ?_ | exact goFc | refine goT ?_ | exact goTc | skip))
    refine w_loop (fun m vs h' => ∃ (q : Nat) (t1 t3 : Tok) (R : List (Nat × Bs)) (x1 x2 x3 x4 x5 x6 x7 x8 x9 x10 x11 x12 x13 x14 x15 x16 x17 x18 x19 : AVal), m = D.s.length - q ∧ q ≤ D.s.length ∧ vs = [.ptr d 0, x1, x2, .ptr j 0, .sl (ps.map partV) (.own a 5), x3, x4, x5, x6, x7, .int .i64 (q : Int), x8, x9, x10, x11, x12, x13, x14, x15, x16, x17, x18, x19] ∧
        scanS ps 0 [] = scanS (ps.drop q) 0 R ∧ R.length ≤ q ∧ PJ h' j d t1 t2 t3 { J with recs := R } ∧ PD h' d b p w D ∧ Fr (fun _ => False) h h' ∧ (∀ i, JS j t1 t2 t3 i → h.next ≤ i)) D.s.length
      ⟨0, .nil, .nil, [], _, _, _, _, _, _, _, _, _, _, _, _, _, _, _, _, _, _, _, rfl, by omega, rfl, rfl, by simp, by rw [← hJ0]; exact PJ1, P2, f2, ?_⟩ ?_
    · rintro i (rfl | ⟨s, e⟩ | ⟨s, e⟩ | ⟨s, e⟩)
      · omega
      · simp at e
      · exact u2 _ _ e
      · simp at e
    · clear PJ1 G1 P2 f2 ga
      rintro m vs h1 ⟨q, t1, t3, R, x1, x2, x3, x4, x5, x6, x7, x8, x9, x10, x11, x12, x13, x14, x15, x16, x17, x18, x19, rfl, hq, rfl, hsc, hRl, PJ1, P2, f2, u3⟩
      by_cases hqn : q < D.s.length
      · have hdn : ps.drop q ≠ [] := fun e => by have := congrArg List.length e; simp at this; omega
        have hpo : ∀ o ∈ ps, POk o := by
          intro o ho
          rw [hps] at ho
          obtain ⟨s, _, rfl⟩ := List.mem_map.1 ho
          exact unpack_ok s
        have hrec := record_v (ps.drop q) hdn (by rw [List.length_drop]; omega) (fun o ho => hpo o (List.mem_of_mem_drop ho))
        have hsl := slice_o_a partV ps (i := a) (s := 5) .i64 (q : Int) (by omega) (by omega) partV_len
        rw [Int.toNat_natCast] at hsl
        have h1l := scanS_drop ps
        cases hr : record (ps.drop q) with
        | none =>
          rw [hr] at hrec
          have hnx := scanS_none (R := R) hdn hr
          rw [List.drop_drop] at hnx
          unfold recV at hrec
          replace fx := aI @hsl @hrec
          (first | refine go ?_ | exact goC | skip); repeat' (first | refine gP ?_ | exact gPc | refine gN ?_ | exact gNc | (refine gI ?_ ?_ <;> intro hyp <;> first | refine goF ?_ | exact goFc | refine goT ?_ | exact goTc | skip))
          exact lp_n ⟨_, by omega, q + 1, t1, t3, R, _, _, _, _, _, _, _, _, _, _, _, _, _, _, _, _, _, _, _, rfl, by omega, by push_cast; rfl, by rw [hsc, hnx], by omega, PJ1, P2, f2, u3⟩
        | some x =>
          obtain ⟨nm, c, tx⟩ := x
          rw [hr] at hrec
          unfold recV at hrec
          obtain ⟨hc1, hcl, htx, hpn⟩ := record_facts hpo hr
          have hnx := scanS_some (R := R) hr hc1
          rw [List.drop_drop] at hnx
          have hnum : (partV (nth ps q)).cells.take 1 = [.int .i64 (nm : Int)] := by
            obtain ⟨p, hp, hpp⟩ := hpn
            rw [hp, ← hpp]; rfl
          have hpl := partV_len (nth ps q)
          obtain ⟨u, hu, hst⟩ := PJ1.tk.g1.strip intN
          have hct := contains_n (R.map (·.1)) nm (by simp; omega) u hu
          obtain ⟨prow, g1, g2, g3, gne⟩ := PJ1
          simp only [Jst.nums, Jst.texts] at prow g1 g2 g3 hst
          by_cases hmem : nm ∈ R.map (·.1)
          · rw [addRec, if_pos hmem] at hnx
            replace fx := aI @hsl (aI @hrec (aI @prow (aI @hnum (aI @hpl (aI @hst (aI @hct (eq_true hmem)))))))
            (first | refine go ?_ | exact goC | skip); repeat' (first | refine gP ?_ | exact gPc | refine gN ?_ | exact gNc | (refine gI ?_ ?_ <;> intro hyp <;> first | refine goF ?_ | exact goFc | refine goT ?_ | exact goTc | skip))
            exact lp_n ⟨_, by omega, q + c, t1, t3, R, _, _, _, _, _, _, _, _, _, _, _, _, _, _, _, _, _, _, _, rfl, by omega, by push_cast; rfl, by rw [hsc, hnx], by omega, ⟨prow, g1, g2, g3, gne⟩, P2, f2, u3⟩
          · rw [addRec, if_neg hmem] at hnx
            have lb : ∀ H, litA 0 3 1 1 false [.int .i64 0] (some [.int .i64 (nm : Int)]) H = some (.sl [intN nm] .none, H) := fun H => lit_none rfl rfl rfl rfl
            have ls : ∀ H, litA 0 9 1 1 false [.str []] (some [.str tx]) H = some (.sl [strV tx] .none, H) := fun H => lit_none rfl rfl rfl rfl
            obtain ⟨h2, e2, n2, k2, o2⟩ := append_N (bytes := 8) (ag := false) (f := intN) (y := .sl ([nm].map intN) .none) (ys := [nm]) intN_len (fun _ => rfl) (fun _ => rfl) lenA_sl (elems_sl intN_len) g1 (by simp; omega) (by omega) (by omega) (by omega) (by simp)
            simp only [List.map_cons, List.map_nil] at e2
            have lj1 := get_lt prow
            have row2 := (o2 j lj1 (g1.ne prow (by simp))).trans prow
            have g3' : GrN h2 9 1 (R.map (·.2)) t3 := g3.keep fun i hg _ => (o2 i (get_lt hg) (g1.ne hg (by simp))).trans hg
            obtain ⟨h3, e3, n3, k3, o3⟩ := append_N (bytes := 16) (ag := false) (f := strV) (y := .sl ([tx].map strV) .none) (ys := [tx]) strV_len (fun _ => rfl) (fun _ => rfl) lenA_sl (elems_sl strV_len) g3' (by simp; omega) (by omega) (by omega) (by omega) (by simp)
            simp only [List.map_cons, List.map_nil] at e3
            have row3 := (o3 j (by omega) (g3'.ne row2 (by simp))).trans row2
            have pp : ∀ x y, ((h3.put j (some x)).put j y).get j = y := fun x y => get_put_old (get_put_old row3)
            have kk : h3.get h1.next = some (.tok 3) := (o3 _ (by omega) (g3'.ne k2 (by simp))).trans k2
            replace fx := aI @hsl (aI @hrec (aI @prow (aI @hnum (aI @hpl (aI @hst (aI @hct (aI (eq_false hmem) (aI @lb (aI @ls (aI @e2 (aI @row2 (aI @e3 (aI @row3 @pp)))))))))))))
            (first | refine go ?_ | exact goC | skip); repeat' (first | refine gP ?_ | exact gPc | refine gN ?_ | exact gNc | (refine gI ?_ ?_ <;> intro hyp <;> first | refine goF ?_ | exact goFc | refine goT ?_ | exact goTc | skip))
            have hre : { J with recs := R ++ [(nm, tx)] }.nums = R.map (·.1) ++ [nm] := by simp [Jst.nums]
            have hte : { J with recs := R ++ [(nm, tx)] }.texts = R.map (·.2) ++ [tx] := by simp [Jst.texts]
            have hu1 : ∀ i s, t1 = .own i s → h.next ≤ i := fun i s e => u3 i (.inr (.inl ⟨s, e⟩))
            have hu2 : ∀ i s, t2 = .own i s → h.next ≤ i := fun i s e => u3 i (.inr (.inr (.inl ⟨s, e⟩)))
            have hu3 : ∀ i s, t3 = .own i s → h.next ≤ i := fun i s e => u3 i (.inr (.inr (.inr ⟨s, e⟩)))
            have hgo : ∀ (x y : Option Abs.Obj) i, i < h1.next → i ≠ j → (∀ s, t1 ≠ .own i s) → (∀ s, t3 ≠ .own i s) → ((h3.put j x).put j y).get i = h1.get i := fun x y i q1 q2 q3 q4 => by
              rw [get_put_ne q2, get_put_ne q2, o3 i (by omega) (fun i' s' e => by rintro rfl; exact q4 _ e), o2 i q1 (fun i' s' e => by rintro rfl; exact q3 _ e)]
            have lP := P.lt
            have hf2 := f2.1
            refine lp_n ⟨_, by omega, q + c, .own h1.next 1, .own h2.next 1, R ++ [(nm, tx)], _, _, _, _, _, _, _, _, _, _, _, _, _, _, _, _, _, _, _, rfl, by omega, by push_cast; rfl, by rw [hsc, hnx], by simp; omega, ⟨by rw [hre, hte]; exact pp _ _, ⟨?_, ?_, ?_, ?_⟩⟩, P2.fr (S := fun i => i = j ∨ (∃ s, t1 = .own i s) ∨ ∃ s, t3 = .own i s) ⟨by rw [put_next, put_next]; omega, fun i q1 q2 => hgo _ _ i q1 (fun e => q2 (.inl e)) (fun s e => q2 (.inr (.inl ⟨s, e⟩))) (fun s e => q2 (.inr (.inr ⟨s, e⟩)))⟩ ?_, ⟨by rw [put_next, put_next]; omega, fun i q1 _ => ?_⟩, ?_⟩
            · exact .inr ⟨_, rfl, by rw [get_put_ne (by omega), get_put_ne (by omega)]; exact kk⟩
            · refine g2.keep fun i hg ⟨s, e⟩ => (hgo _ _ i (get_lt hg) (by rintro rfl; rw [prow] at hg; simp at hg) (fun s' e' => gne i s' s e' e) (fun s' e' => g3.ne hg (by simp) _ _ e' rfl)).trans hg
            · exact .inr ⟨_, rfl, by rw [get_put_ne (by omega), get_put_ne (by omega)]; exact k3⟩
            · intro i s s' e e'
              simp only [Tok.own.injEq] at e
              have := g2.lt e'
              omega
            · rintro i hi (rfl | ⟨s, e⟩ | ⟨s, e⟩)
              · have := lP _ hi; omega
              · have := lP _ hi; have := hu1 _ _ e; omega
              · have := lP _ hi; have := hu3 _ _ e; omega
            · rw [hgo _ _ i (by omega) (by omega) (fun s e => by have := hu1 _ _ e; omega) (fun s e => by have := hu3 _ _ e; omega)]
              exact f2.2 i q1 (fun q => q)
            · rintro i (rfl | ⟨s, e⟩ | ⟨s, e⟩ | ⟨s, e⟩)
              · omega
              · simp only [Tok.own.injEq] at e; omega
              · exact hu2 _ _ e
              · simp only [Tok.own.injEq] at e; omega
      · have e : q = D.s.length := by omega
        subst e
        have hR : scanS ps 0 [] = R := by rw [hsc, List.drop_eq_nil_of_le (by omega)]; rfl
        have hop2 : openJ (conts D) = { J with recs := R } := by rw [hop, hR]
        replace fx := Dum_eq
        (first | refine go ?_ | exact goC | skip); repeat' (first | refine gP ?_ | exact gPc | refine gN ?_ | exact gNc | (refine gI ?_ ?_ <;> intro hyp <;> first | refine goF ?_ | exact goFc | refine goT ?_ | exact goTc | skip))
        rw [hop2]
        exact ⟨j, t1, t2, t3, rfl, PJ1, P2, f2, fun i hi => by rw [hj]; exact u3 i hi⟩
end Go.Proofs.YtjofjgflcogklaaDoor
