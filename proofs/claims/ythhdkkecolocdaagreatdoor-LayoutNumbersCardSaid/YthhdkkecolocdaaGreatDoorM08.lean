/-
  Merged from LyArg LyR LvF_Tryz LvMemo LvSan LvPs LvP0 LvP1 LvP2 LvP3a LvP3b LvP3c LvP3d LvP4 LvLiv LyL1 LyN1: The listed variables; the arguments of the layout's statements.
-/
import Derived.Test.YthhdkkecolocdaaGreatDoorM03
import Derived.Test.YthhdkkecolocdaaGreatDoorM07
import Derived.Test.YthhdkkecolocdaaGreatDoorRows
import Derived.LaidMore
import Derived.LaidLaws
import Derived.OpenShut
import Derived.Stop.Joined
import Derived.Lay
import Derived.Test.YthhdkkecolocdaaGreatDoorM04
import Derived.Test.YthhdkkecolocdaaGreatDoorM05
import Derived.Test.YthhdkkecolocdaaGreatDoorM06
set_option linter.unusedSimpArgs false
set_option linter.unusedVariables false
set_option linter.defProp false
set_option linter.constructorNameAsVariable false
/-
 The listed variables; the arguments of the layout's statements.
-/
namespace Go.Proofs.YthhdkkecolocdaaGreatDoor
open Go Go.Abs Go.ChangeShapes Go.WideShapes Go.ChangeAt Go.RowKit
theorem own : ownKnob Tryz.prog.godebug = none := by kernel_rfl
theorem laidOut : laidOutB Tryz.prog = true := by kernel_rfl
def laidK : List (String × DataW Unit) := [("math/bits.deBruijn32tab", Rows.laid_math_bits_deBruijn32tab), ("math/bits.deBruijn64tab", Rows.laid_math_bits_deBruijn64tab), ("internal/strconv.uint64pow10", Rows.laid_internal_strconv_uint64pow10), ("unicode/utf8.acceptRanges", Rows.laid_unicode_utf8_acceptRanges), ("wordbook/calendar.lengths", Rows.laid_wordbook_calendar_lengths), ("unicode/utf8.first", Rows.laid_unicode_utf8_first)]
theorem globs {W : World} (h : laidMetH Tryz.prog laidK W) : ∀ g cs, hints.glob g = some cs → VRel W (G0 (envOf Tryz.prog hints)) (.pointer (some ⟨g, 0, none⟩)) (.rp cs) ∧ ∀ c ∈ cs, strip c = some c := by
 intro g cs hgl
 simp [hints] at hgl
theorem door_met (os : Os) (args : Array Value) : laidMetH Tryz.prog laidK ((World.laidAll Tryz.prog os laidK).forCall (fun _ _ => 0) ⟨#[], args, []⟩).memory := by
 rw [MakeChecks.laidMetH_plain _ _ _ (by kernel_rfl)]
 exact laidMet_laidAll _ (by kernel_rfl) (by kernel_rfl)
theorem maxLen_eq : maxLen = 9223372036854775807 := by unfold maxLen; first | rfl | decide
attribute [local irreducible] okA
theorem mk_one {ag : Bool} {x c : AVal} (h : mk false x.cells = some x) (hc : x.cells = [c]) : x = c := by
 rw [hc] at h; simpa [mk] using h.symm
theorem argI {n : Nat} {x : AVal} (h1 : mk (isSt Tryz.prog 3) x.cells = some x) (h2 : okA Tryz.prog (n + 1) 3 x.cells) : ∃ z, x = .int .i64 z ∧ i64 z := by
 have hst : isSt Tryz.prog 3 = false := by kernel_rfl
 rw [hst] at h1
 rw [okA] at h2
 simp only [Tryz.underlying3] at h2
 obtain ⟨z, hz, hw⟩ := h2
 exact ⟨z, mk_one (ag := false) h1 hz, wf_i64 hw⟩
theorem list_of {α : Type} {p : AVal → Prop} {f : α → AVal} {q : α → Prop} (hp : ∀ x, p x → ∃ a, x = f a ∧ q a) : ∀ {xs : List AVal}, (∀ x ∈ xs, p x) → ∃ l : List α, xs = l.map f ∧ ∀ a ∈ l, q a
 | [], _ => ⟨[], rfl, by simp⟩
 | x :: xs, h => by
   obtain ⟨z, rfl, hz⟩ := hp x (h x (by simp))
   obtain ⟨l, rfl, hl⟩ := list_of hp (xs := xs) (fun y hy => h y (by simp [hy]))
   exact ⟨z :: l, rfl, fun p hp => by
    rcases List.mem_cons.1 hp with rfl | hp
    ·exact hz
    ·exact hl p hp⟩
structure ArgL (l : List Int) (t : Abs.Tok) : Prop where
 pt : Pt t
 ok : ∀ z ∈ l, i64 z
theorem argL {n : Nat} {x : AVal} (h1 : mk (isSt Tryz.prog 22) x.cells = some x) (h2 : okA Tryz.prog (n + 2) 22 x.cells) : ∃ (l : List Int) (tk : Abs.Tok), x = .sl (l.map (.int .i64)) tk ∧ ArgL l tk := by
 have hst : isSt Tryz.prog 22 = false := by kernel_rfl
 rw [hst] at h1
 rw [okA] at h2
 simp only [Tryz.underlying22] at h2
 obtain ⟨xs, tk, hx, htk, hlen, hall⟩ := h2
 rw [maxLen_eq] at hlen
 obtain ⟨l, rfl, hl⟩ := list_of (f := AVal.int .i64) (q := i64) (fun x hx => argI (n := n) hx.1 hx.2) hall
 refine ⟨l, tk, mk_one (ag := false) h1 hx, ?_, hl⟩
 rcases htk with rfl | ⟨rfl, _⟩
 ·exact .inl rfl
 ·exact .inr rfl
end Go.Proofs.YthhdkkecolocdaaGreatDoor

set_option maxHeartbeats 4000000
namespace Go.Proofs.YthhdkkecolocdaaGreatDoor
open Go Go.Abs Go.Ly
def idN (i : Nat) : Ly.Id := ⟨((i % 2 : Nat) : Int), 2 + ((i / 4 : Nat) : Int), ((i % 4 : Nat) : Int)⟩
theorem idN_inj {i j : Nat} (h : idN i = idN j) : i = j := by
 simp only [idN, Id.mk.injEq] at h
 omega
theorem ss_nth (l : List Int) : ∀ (n i : Nat), i < n → nth (ssOf l n) i = snOf l i (ssOf l i)
 | 0, i, h => by omega
 | n + 1, i, h => by
   rw [ssOf]
   by_cases h1 : i < n
   ·rw [nth_append_left (by rw [ssOf_len]; exact h1)]
    exact ss_nth l n i h1
   ·have : i = n := by omega
    subst this
    rw [nth_append_right (by rw [ssOf_len]; omega), ssOf_len, Nat.sub_self]
    rfl
theorem ss_id (l : List Int) {n i : Nat} (h : i < n) : (nth (ssOf l n) i).id = idN i := by rw [ss_nth l n i h]; rfl
theorem ss_mem {l : List Int} {n : Nat} {s : Sn} (h : s ∈ ssOf l n) : ∃ i, i < n ∧ s = snOf l i (ssOf l i) := by
 obtain ⟨i, hi, rfl⟩ := List.getElem_of_mem h
 rw [ssOf_len] at hi
 exact ⟨i, hi, by rw [← nth_eq (by rw [ssOf_len]; exact hi), ss_nth l n i hi]⟩
theorem sense_none {b : Bk} {x : Ly.Id} (h : ∀ s ∈ b.ss, s.id ≠ x) : b.sense x = none := by
 unfold Bk.sense
 rw [List.find?_eq_none]
 intro s hs
 simpa using h s hs
theorem idx_at (l : List Int) (es : List En) {n i : Nat} (h : i < n) : (⟨es, ssOf l n⟩ : Bk).idx (idN i) = i := by
 unfold Bk.idx
 have hl : i < (ssOf l n).length := by rw [ssOf_len]; exact h
 rw [List.findIdx_eq hl]
 refine ⟨by rw [← nth_eq hl, ss_id l h]; simp, fun j hj => ?_⟩
 have hjl : j < (ssOf l n).length := by omega
 rw [← nth_eq hjl, ss_id l (by omega)]
 simp only [decide_eq_false_iff_not]
 exact fun q => by have := idN_inj q; omega
theorem par_cases (l : List Int) (i : Nat) : (snOf l i (ssOf l i)).par = ⟨3, 3, 3⟩ ∨ (∃ k, k < i ∧ (snOf l i (ssOf l i)).par = idN k) ∨ ∃ a, (snOf l i (ssOf l i)).par = ⟨0, 1, a⟩ := by
 simp only [snOf]
 split
 ·exact .inl rfl
 ·split
  ·rename_i h
   have b := at_bound l (23 + (i : Int)) (m := (i : Int)) (by omega)
   refine .inr (.inl ⟨(atS l (23 + (i : Int)) i).toNat, by omega, ?_⟩)
   rw [ss_id l (by omega)]
  ·exact .inr (.inr ⟨_, rfl⟩)
theorem head_len (n : Nat) : (nth headL n).length ≤ 4 := by
 match n with
 | 0 => decide
 | 1 => decide
 | 2 => decide
 | 3 => decide
 | n + 4 =>
   have : nth headL (n + 4) = [] := rfl
   rw [this]; simp
theorem tree_fit (l : List Int) : (treeB l).Fit := by
 obtain ⟨n1, n2⟩ := treeN_b l
 have hs : ∀ x : Ly.Id, (∀ i, x ≠ idN i) → (treeB l).sense x = none := fun x hx => sense_none fun s hs q => by
  obtain ⟨i, hi, rfl⟩ := ss_mem hs
  exact hx i q.symm
 have he : ∀ x : Ly.Id, x.s ≠ 1 → (treeB l).ent x = none := fun x hx => by
  unfold Bk.ent
  rw [List.find?_eq_none]
  intro e h
  obtain ⟨i, _, rfl⟩ := List.mem_map.1 h
  simp only [decide_eq_true_eq]
  rintro rfl
  exact hx rfl
 refine ⟨⟨fun s hm t ht => ?_, fun x hx => ?_⟩, by show (esOf l 2).length ≤ 2; rw [esOf_len]; omega, by show 1 ≤ (ssOf l _).length; rw [ssOf_len]; omega, by show (ssOf l _).length ≤ 40; rw [ssOf_len]; omega, ?_, fun e h => ?_, fun s h => ?_, ?_⟩
 ·obtain ⟨i, hi, rfl⟩ := ss_mem hm
  have e1 : (treeB l).idx (snOf l i (ssOf l i)).id = i := idx_at l _ hi
  rw [e1]
  rcases par_cases l i with q | ⟨k, hk, q⟩ | ⟨a, q⟩
  ·rw [q, hs _ (fun j h => by simp [idN] at h; omega)] at ht
   simp at ht
  ·have e2 : (treeB l).idx (snOf l i (ssOf l i)).par = k := by rw [q]; exact idx_at l _ (by omega)
   omega
  ·rw [q, hs _ (fun j h => by simp [idN] at h; omega)] at ht
   simp at ht
 ·refine he x ?_
  obtain ⟨s, h⟩ := Option.isSome_iff_exists.1 hx
  obtain ⟨q1, q2⟩ := sense_id h
  obtain ⟨i, hi, rfl⟩ := ss_mem q2
  rw [← q1]
  show 2 + ((i / 4 : Nat) : Int) ≠ 1
  omega
 ·rw [List.nodup_iff_pairwise_ne, List.pairwise_iff_getElem]
  intro i j hi hj hij
  simp only [List.length_map] at hi hj
  have hn : (treeB l).ss.length = treeN l := ssOf_len l _
  rw [List.getElem_map, List.getElem_map, ← nth_eq hi, ← nth_eq hj]
  show (nth (ssOf l _) i).id ≠ (nth (ssOf l _) j).id
  rw [ss_id l (by omega), ss_id l (by omega)]
  exact fun q => by have := idN_inj q; omega
 ·obtain ⟨i, _, rfl⟩ := List.mem_map.1 h
  have := head_len (atS l i 4).toNat
  show (nth headL _).length ≤ 10
  omega
 ·obtain ⟨i, hi, rfl⟩ := ss_mem h
  simp only [snOf]
  split <;> simp
 ·exact hs _ fun j h => by simp [idN] at h; omega
theorem tree_small (l : List Int) (L : List Ly.Id) : Small (treeB l) L := by
 refine small_of (tree_fit l) ?_ L
 have := treeN_b l
 show (ssOf l _).length ≤ 12
 rw [ssOf_len]
 omega
def someN (b : Bk) (l : List Int) (i : Nat) : Ly.Id := (nth b.ss (atS l i b.ss.length).toNat).id
def someL (b : Bk) (l : List Int) (many none : Int) : List Ly.Id := (List.range many.toNat).map (someN b l) ++ (if none = 0 then [⟨4, 4, 4⟩] else [])
theorem gr_pur {α : Type} {h : Heap} {ty sz : Nat} {l : List α} {tk1 : Abs.Tok} (g : Gr h ty sz l tk1) (q : l = [] → tk1 = .nil) (xs : List AVal) : purify h (.sl xs tk1) = some (.sl xs (tk l)) := by
 by_cases e : l = []
 ·subst e; rw [q rfl]; rfl
 ·rcases g with ⟨q1, _⟩ | ⟨i, rfl, _⟩
  ·exact absurd q1 e
  ·have : tk l = .none := by unfold tk; rw [if_neg (by simpa using e)]
   rw [this]; rfl
theorem some_v (b : Bk) (fit : b.Fit) {l : List Int} {t : Abs.Tok} (hl : ∀ x ∈ l, i64 x) (many none : Int) (hm0 : 0 ≤ many) (hm : many ≤ 100) :
  PV F 9 [b.val, .sl (l.map (.int .i64)) t, .int .i64 many, .int .i64 none] = some (.sl ((someL b l many none).map Ly.Id.val) (tk (someL b l many none))) := by
 have h1 := fit.ss1
 have h2 := fit.ss
 have av := fun (i : Int) => at_v (t := t) (i := i) (m := (b.ss.length : Int)) hl (by omega)
 obtain ⟨u, hu, _, stp⟩ := pur_tk2 Heap.empty (l.map (.int .i64)) t
 have av2 := fun (i : Int) => at_v (t := u) (i := i) (m := (b.ss.length : Int)) hl (by omega)
 refine PV_wp (fn := c9) rfl ?_
 simp only [uT, c9]
 replace fx := aI @bkVL (aI @bkL @bkA)
 first | refine go ?_ | exact goC
 refine w_loop (fun k vs H => ∃ (i : Nat) (t1 : Abs.Tok) (x1 x2 : AVal), k = many.toNat - i ∧ i ≤ many.toNat ∧ H.get 0 = some (.row true 0 true (bkC b)) ∧ Gr H 62 3 ((List.range i).map (someN b l)) t1 ∧ (((List.range i).map (someN b l)) = [] → t1 = .nil) ∧
   vs = [b.val, .sl (l.map (.int .i64)) t, .int .i64 many, .int .i64 none, .ptr 0 0, .sl [] .nil, .sl (((List.range i).map (someN b l)).map Ly.Id.val) t1, .int .i64 (i : Int), x1, x2]) many.toNat
  ⟨0, .nil, _, _, rfl, by omega, get_push_eq rfl, Gr.nil _ _ _, fun _ => rfl, rfl⟩ ?_
 rintro k vs H ⟨i, t1, x1, x2, rfl, hi, g0, hgr, hnl, rfl⟩
 have b1 := at_bound l i (m := (b.ss.length : Int)) (by omega)
 by_cases hi2 : i < many.toNat
 ·replace fx := aI @g0 (aI @bkL (aI @bk1 (aI @stp (aI @av2 (aI @snId (aI @snVL (aI @snL @idcE)))))))
  (first | refine go ?_ | exact goC); repeat' (first | refine gP ?_ | exact gPc)
  refine append_U (f := Ly.Id.val) ((List.range i).map (someN b l)) [someN b l i] (fun _ => rfl) (fun _ => rfl) (fun _ => rfl) rfl rfl hgr (by simp; omega) (by omega) (by omega) (by omega) fun H2 t2 hgr2 hn2 keep2 => ?_
  have k0 := keep2 _ _ _ _ _ g0
  have e : (List.range i).map (someN b l) ++ [someN b l i] = (List.range (i + 1)).map (someN b l) := by simp [List.range_succ]
  rw [e] at hgr2 ⊢
  replace fx := Dum_eq
  first | refine go ?_ | exact goC
  exact lp_n ⟨_, by omega, i + 1, t2, _, _, rfl, by omega, k0, hgr2, fun q => by simp [List.range_succ] at q, by push_cast; rfl⟩
 ·have hi3 : i = many.toNat := by omega
  subst hi3
  replace fx := Dum_eq
  (first | refine go ?_ | exact goC); repeat' (first | refine gN ?_ | exact gNc | (refine gI ?_ ?_ <;> intro hyp <;> first | refine goF ?_ | exact goFc | refine goT ?_ | exact goTc | skip))
  ·have e : someL b l many none = (List.range many.toNat).map (someN b l) ++ [⟨4, 4, 4⟩] := by unfold someL; rw [if_pos hyp]
   refine append_U (f := Ly.Id.val) ((List.range many.toNat).map (someN b l)) [⟨4, 4, 4⟩] (fun _ => rfl) (fun _ => rfl) (fun _ => rfl) rfl rfl hgr (by simp; omega) (by omega) (by omega) (by omega) fun H2 t2 hgr2 hn2 keep2 => ?_
   rw [← e] at hgr2 ⊢
   replace fx := Dum_eq
   first | refine go ?_ | exact goC
   exact gr_pur hgr2 (fun q => by rw [e] at q; simp at q) _
  ·have e : someL b l many none = (List.range many.toNat).map (someN b l) := by unfold someL; rw [if_neg hyp, List.append_nil]
   rw [e]
   exact gr_pur hgr hnl _
theorem someL_len (b : Bk) (l : List Int) {many : Int} (none : Int) (h0 : 0 ≤ many) : (someL b l many none).length ≤ many.toNat + 1 := by
 unfold someL
 split <;> simp
end Go.Proofs.YthhdkkecolocdaaGreatDoor

namespace Go.Proofs.YthhdkkecolocdaaGreatDoor
open Go Go.Abs Go.Shelf
open Go.RowKit
noncomputable def FV : Nat → Option AEnt
 | 11 => some (.comp cV11)
 | 13 => some (.comp cV13)
 | 14 => some (.comp cV14)
 | 15 => some (.comp cV15)
 | 17 => some (.comp cV17)
 | 18 => some (.comp cV18)
 | 26 => some (.comp cV26)
 | 27 => some (.comp cV27)
 | 28 => some (.comp cV28)
 | 29 => some (.comp cV29)
 | 31 => some (.comp cV31)
 | 33 => some (.comp cV33)
 | 34 => some (.comp cV34)
 | 42 => some (.comp cV42)
 | 43 => some (.comp cV43)
 | 44 => some (.comp cV44)
 | 45 => some (.comp cV45)
 | 46 => some (.comp cV46)
 | 47 => some (.comp cV47)
 | 48 => some (.comp cV48)
 | 49 => some (.comp cV49)
 | 53 => some (.comp cV53)
 | 54 => some (.comp cV54)
 | 55 => some (.comp cV55)
 | 56 => some (.comp cV56)
 | 62 => some (.comp cV62)
 | 63 => some (.comp cV63)
 | 64 => some (.comp cV64)
 | 65 => some (.comp cV65)
 | 68 => some (.comp cV68)
 | 69 => some (.comp cV69)
 | 70 => some (.comp cV70)
 | 79 => some (.comp cV79)
 | 80 => some (.comp cV80)
 | 81 => some (.comp cV81)
 | 82 => some (.comp cV82)
 | 83 => some (.comp cV83)
 | 84 => some (.comp cV84)
 | 85 => some (.comp cV85)
 | 91 => some (.comp cV91)
 | 92 => some (.comp cV92)
 | 93 => some (.comp cV93)
 | 102 => some (.comp cV102)
 | 105 => some (.comp cV105)
 | 106 => some (.comp cV106)
 | 107 => some (.comp cV107)
 | 108 => some (.comp cV108)
 | 109 => some (.comp cV109)
 | 114 => some (.comp cV114)
 | 115 => some (.comp cV115)
 | 116 => some (.comp cV116)
 | 117 => some (.comp cV117)
 | 118 => some (.comp cV118)
 | 119 => some (.comp cV119)
 | 120 => some (.comp cV120)
 | 121 => some (.comp cV121)
 | 122 => some (.comp cV122)
 | 123 => some (.comp cV123)
 | 124 => some (.comp cV124)
 | 126 => some (.comp cV126)
 | 127 => some (.comp cV127)
 | 128 => some (.comp cV128)
 | 129 => some (.comp cV129)
 | 130 => some (.comp cV130)
 | 142 => some (.comp cV142)
 | 143 => some (.comp cV143)
 | 151 => some (.comp cV151)
 | 152 => some (.comp cV152)
 | 153 => some (.comp cV153)
 | 155 => some (.comp cV155)
 | 156 => some (.comp cV156)
 | 157 => some (.comp cV157)
 | 162 => some (.comp cV162)
 | 163 => some (.comp cV163)
 | 168 => some (.comp cV168)
 | 169 => some (.comp cV169)
 | 178 => some (.comp cV178)
 | 194 => some (.comp cV194)
 | 196 => some (.comp cV196)
 | 197 => some (.comp cV197)
 | 200 => some (.comp cV200)
 | 201 => some (.comp cV201)
 | 213 => some (.comp cV213)
 | 234 => some (.comp cV234)
 | 238 => some (.comp cV238)
 | 244 => some (.comp cV244)
 | 245 => some (.comp cV245)
 | 246 => some (.comp cV246)
 | 247 => some (.comp cV247)
 | 250 => some (.comp cV250)
 | 262 => some (.comp cV262)
 | 263 => some (.comp cV263)
 | 268 => some (.comp cV268)
 | 270 => some (.comp cV270)
 | 271 => some (.comp cV271)
 | 289 => some (.comp cV289)
 | 135 => some (.hand (idxS))
 | 154 => some (.hand (splitS))
 | _ => none
theorem tableV : Table Tryz.prog hintsV FV := by
 intro g
 unfold FV
 split
 ·exact ⟨cV11_ok, rfl⟩
 ·exact ⟨cV13_ok, rfl⟩
 ·exact ⟨cV14_ok, rfl⟩
 ·exact ⟨cV15_ok, rfl⟩
 ·exact ⟨cV17_ok, rfl⟩
 ·exact ⟨cV18_ok, rfl⟩
 ·exact ⟨cV26_ok, rfl⟩
 ·exact ⟨cV27_ok, rfl⟩
 ·exact ⟨cV28_ok, rfl⟩
 ·exact ⟨cV29_ok, rfl⟩
 ·exact ⟨cV31_ok, rfl⟩
 ·exact ⟨cV33_ok, rfl⟩
 ·exact ⟨cV34_ok, rfl⟩
 ·exact ⟨cV42_ok, rfl⟩
 ·exact ⟨cV43_ok, rfl⟩
 ·exact ⟨cV44_ok, rfl⟩
 ·exact ⟨cV45_ok, rfl⟩
 ·exact ⟨cV46_ok, rfl⟩
 ·exact ⟨cV47_ok, rfl⟩
 ·exact ⟨cV48_ok, rfl⟩
 ·exact ⟨cV49_ok, rfl⟩
 ·exact ⟨cV53_ok, rfl⟩
 ·exact ⟨cV54_ok, rfl⟩
 ·exact ⟨cV55_ok, rfl⟩
 ·exact ⟨cV56_ok, rfl⟩
 ·exact ⟨cV62_ok, rfl⟩
 ·exact ⟨cV63_ok, rfl⟩
 ·exact ⟨cV64_ok, rfl⟩
 ·exact ⟨cV65_ok, rfl⟩
 ·exact ⟨cV68_ok, rfl⟩
 ·exact ⟨cV69_ok, rfl⟩
 ·exact ⟨cV70_ok, rfl⟩
 ·exact ⟨cV79_ok, rfl⟩
 ·exact ⟨cV80_ok, rfl⟩
 ·exact ⟨cV81_ok, rfl⟩
 ·exact ⟨cV82_ok, rfl⟩
 ·exact ⟨cV83_ok, rfl⟩
 ·exact ⟨cV84_ok, rfl⟩
 ·exact ⟨cV85_ok, rfl⟩
 ·exact ⟨cV91_ok, rfl⟩
 ·exact ⟨cV92_ok, rfl⟩
 ·exact ⟨cV93_ok, rfl⟩
 ·exact ⟨cV102_ok, rfl⟩
 ·exact ⟨cV105_ok, rfl⟩
 ·exact ⟨cV106_ok, rfl⟩
 ·exact ⟨cV107_ok, rfl⟩
 ·exact ⟨cV108_ok, rfl⟩
 ·exact ⟨cV109_ok, rfl⟩
 ·exact ⟨cV114_ok, rfl⟩
 ·exact ⟨cV115_ok, rfl⟩
 ·exact ⟨cV116_ok, rfl⟩
 ·exact ⟨cV117_ok, rfl⟩
 ·exact ⟨cV118_ok, rfl⟩
 ·exact ⟨cV119_ok, rfl⟩
 ·exact ⟨cV120_ok, rfl⟩
 ·exact ⟨cV121_ok, rfl⟩
 ·exact ⟨cV122_ok, rfl⟩
 ·exact ⟨cV123_ok, rfl⟩
 ·exact ⟨cV124_ok, rfl⟩
 ·exact ⟨cV126_ok, rfl⟩
 ·exact ⟨cV127_ok, rfl⟩
 ·exact ⟨cV128_ok, rfl⟩
 ·exact ⟨cV129_ok, rfl⟩
 ·exact ⟨cV130_ok, rfl⟩
 ·exact ⟨cV142_ok, rfl⟩
 ·exact ⟨cV143_ok, rfl⟩
 ·exact ⟨cV151_ok, rfl⟩
 ·exact ⟨cV152_ok, rfl⟩
 ·exact ⟨cV153_ok, rfl⟩
 ·exact ⟨cV155_ok, rfl⟩
 ·exact ⟨cV156_ok, rfl⟩
 ·exact ⟨cV157_ok, rfl⟩
 ·exact ⟨cV162_ok, rfl⟩
 ·exact ⟨cV163_ok, rfl⟩
 ·exact ⟨cV168_ok, rfl⟩
 ·exact ⟨cV169_ok, rfl⟩
 ·exact ⟨cV178_ok, rfl⟩
 ·exact ⟨cV194_ok, rfl⟩
 ·exact ⟨cV196_ok, rfl⟩
 ·exact ⟨cV197_ok, rfl⟩
 ·exact ⟨cV200_ok, rfl⟩
 ·exact ⟨cV201_ok, rfl⟩
 ·exact ⟨cV213_ok, rfl⟩
 ·exact ⟨cV234_ok, rfl⟩
 ·exact ⟨cV238_ok, rfl⟩
 ·exact ⟨cV244_ok, rfl⟩
 ·exact ⟨cV245_ok, rfl⟩
 ·exact ⟨cV246_ok, rfl⟩
 ·exact ⟨cV247_ok, rfl⟩
 ·exact ⟨cV250_ok, rfl⟩
 ·exact ⟨cV262_ok, rfl⟩
 ·exact ⟨cV263_ok, rfl⟩
 ·exact ⟨cV268_ok, rfl⟩
 ·exact ⟨cV270_ok, rfl⟩
 ·exact ⟨cV271_ok, rfl⟩
 ·exact ⟨cV289_ok, rfl⟩
 ·exact ⟨(idx_ok idxA (enters_of Tryz.func135 (by kernel_rfl) rfl)).e, fun q => by simp [hintsV] at q⟩
 ·exact ⟨(split_ok splA (by kernel_rfl) (enters_of Tryz.func154 (by kernel_rfl) rfl)).e, fun q => by simp [hintsV] at q⟩
 ·trivial
end Go.Proofs.YthhdkkecolocdaaGreatDoor

namespace Go.Proofs.YthhdkkecolocdaaGreatDoor
open Go Go.Abs
def mm0 : AVal := (.sl [(.agg [(.str [97]), z6, z6, z6, (i6 5)]), (.agg [(.str [99]), (i6 1), z6, z6, (i6 5)]), (.agg [(.str [101]), (i6 2), z6, z6, (i6 5)]), (.agg [(.str [112]), (i6 3), z6, z6, (i6 5)]), (.agg [(.str [116]), (i6 4), z6, z6, (i6 5)])] .none)
def memo0 : List (List AVal × AVal) := [([mm0], (.bool true))]
def memo1 : List (List AVal × AVal) := [([mm0, (.str [99, 97, 116])], (.tup [(.sl [(i6 1), z6, (i6 4)] .none), (i6 (-1))])),
 ([mm0, (.str [40, 114, 97, 114, 101, 41])], (.tup [nS, z6])),
 ([mm0, (.str [114, 97, 114, 101, 41])], (.tup [nS, z6])),
 ([mm0, (.str [97, 114, 101, 41])], (.tup [(.sl [z6] .none), (i6 1)])),
 ([mm0, (.str [114, 101, 41])], (.tup [nS, z6])),
 ([mm0, (.str [101, 41])], (.tup [(.sl [(i6 2)] .none), (i6 1)])),
 ([mm0, (.str [41])], (.tup [nS, z6])),
 ([mm0, (.str [97])], (.tup [(.sl [z6] .none), (i6 (-1))])),
 ([mm0, (.str [112, 101, 116])], (.tup [(.sl [(i6 3), (i6 2), (i6 4)] .none), (i6 (-1))])),
 ([mm0, (.str [115, 101, 101])], (.tup [nS, z6])),
 ([mm0, (.str [101, 101])], (.tup [(.sl [(i6 2), (i6 2)] .none), (i6 (-1))])),
 ([mm0, (.str [40, 112, 46])], (.tup [nS, z6])),
 ([mm0, (.str [112, 46])], (.tup [(.sl [(i6 3)] .none), (i6 1)])),
 ([mm0, (.str [46])], (.tup [nS, z6]))]
def memo2 : List (List AVal × AVal) := [([mm0, (.agg [(i6 3), (i6 5), (i6 4), (i6 100), nS]), (.str [99, 97, 116]), (.bool true)], (.tup [(i6 15), z6])),
 ([mm0, (.agg [(i6 3), (i6 5), (i6 4), (i6 100), nS]), (.str [32]), (.bool true)], (.tup [(i6 3), z6])),
 ([mm0, (.agg [(i6 3), (i6 5), (i6 4), (i6 100), nS]), (.str [45]), (.bool true)], (.tup [(i6 4), z6])),
 ([mm0, (.agg [(i6 3), (i6 5), (i6 4), (i6 100), nS]), (.str [40, 114, 97, 114, 101, 41]), (.bool false)], (.tup [(i6 26), z6])),
 ([mm0, (.agg [(i6 3), (i6 5), (i6 4), (i6 100), nS]), (.str [32]), (.bool false)], (.tup [(i6 3), z6])),
 ([mm0, (.agg [(i6 3), (i6 5), (i6 4), (i6 100), nS]), (.str [45]), (.bool false)], (.tup [(i6 4), z6])),
 ([mm0, (.agg [(i6 3), (i6 5), (i6 4), (i6 100), nS]), (.str [97, 32, 112, 101, 116]), (.bool false)], (.tup [(i6 23), z6])),
 ([mm0, (.agg [(i6 3), (i6 5), (i6 4), (i6 100), nS]), (.str [97]), (.bool false)], (.tup [(i6 5), z6])),
 ([mm0, (.agg [(i6 3), (i6 5), (i6 4), (i6 100), nS]), (.str [112, 101, 116]), (.bool false)], (.tup [(i6 15), z6])),
 ([mm0, (.agg [(i6 3), (i6 5), (i6 4), (i6 100), nS]), (.str [115, 101, 101, 32, 112, 101, 116]), (.bool false)], (.tup [(i6 32), z6])),
 ([mm0, (.agg [(i6 3), (i6 5), (i6 4), (i6 100), nS]), (.str [115, 101, 101]), (.bool false)], (.tup [(i6 14), z6])),
 ([mm0, (.agg [(i6 3), (i6 5), (i6 4), (i6 100), nS]), (.str [40, 112, 46]), (.bool false)], (.tup [(i6 13), z6])),
 ([mm0, (.agg [(i6 3), (i6 5), (i6 4), (i6 100), nS]), (.str [41]), (.bool false)], (.tup [(i6 4), z6]))]
def memo3 : List (List AVal × AVal) := [([(.agg [(.sl [(.agg [z6, (i6 1), (i6 8), (.sl [(.agg [(.str [99, 97, 116]), z6, z6, z6, z6, z6, z6])] .none), nS]), (.agg [z6, (i6 1), (i6 9), (.sl [(.agg [(.str [112, 101, 116]), z6, z6, z6, z6, z6, z6])] .none), nS])] .none), (.sl [(.agg [z6, (i6 1), (i6 1), z6, (i6 1), (i6 8), (.sl [(.agg [(.str [97, 32, 112, 101, 116]), z6, z6, z6, z6, z6, z6])] .none), (.sl [(.agg [(.str []), (i6 5), z6, z6, z6, z6, z6])] .none), nS, nS, nS, nS, (.sl [(.str [114, 97, 114, 101])] .none), (.sl [(.agg [z6, (i6 1), (i6 4)])] .none)]), (.agg [z6, (i6 1), (i6 2), z6, (i6 1), (i6 8), (.sl [(.agg [(.str [97]), z6, z6, z6, z6, z6, z6])] .none), (.sl [(.agg [(.str []), (i6 4), z6, z6, z6, z6, z6])] .none), nS, nS, nS, nS, nS, nS]), (.agg [z6, (i6 1), (i6 3), z6, (i6 1), (i6 1), (.sl [(.agg [(.str [97]), z6, z6, z6, z6, z6, z6])] .none), (.sl [(.agg [(.str []), z6, z6, z6, z6, z6, z6])] .none), nS, nS, nS, nS, nS, nS]), (.agg [z6, (i6 1), (i6 4), z6, (i6 1), (i6 9), (.sl [(.agg [(.str [97, 32, 99, 97, 116]), z6, z6, z6, z6, z6, z6])] .none), (.sl [(.agg [(.str []), z6, z6, z6, z6, z6, z6])] .none), nS, nS, nS, nS, nS, nS])] .none), nS, nS, nS, nS, nS]), (.agg [z6, (i6 1), (i6 1)]), (.agg [z6, (i6 1), (i6 4)])], (.tup [(.agg [z6, (i6 1), (i6 4)]), z6]))]
def memo4 : List (List AVal × AVal) := [([(.agg [(.sl [(.agg [z6, (i6 1), (i6 8), (.sl [(.agg [(.str [99, 97, 116]), z6, z6, z6, z6, z6, z6])] .none), nS]), (.agg [z6, (i6 1), (i6 9), (.sl [(.agg [(.str [112, 101, 116]), z6, z6, z6, z6, z6, z6])] .none), nS])] .none), (.sl [(.agg [z6, (i6 1), (i6 1), z6, (i6 1), (i6 8), (.sl [(.agg [(.str [97, 32, 112, 101, 116]), z6, z6, z6, z6, z6, z6])] .none), (.sl [(.agg [(.str []), (i6 5), z6, z6, z6, z6, z6])] .none), nS, nS, nS, nS, (.sl [(.str [114, 97, 114, 101])] .none), (.sl [(.agg [z6, (i6 1), (i6 4)])] .none)]), (.agg [z6, (i6 1), (i6 2), z6, (i6 1), (i6 8), (.sl [(.agg [(.str [97]), z6, z6, z6, z6, z6, z6])] .none), (.sl [(.agg [(.str []), (i6 4), z6, z6, z6, z6, z6])] .none), nS, nS, nS, nS, nS, nS]), (.agg [z6, (i6 1), (i6 3), z6, (i6 1), (i6 1), (.sl [(.agg [(.str [97]), z6, z6, z6, z6, z6, z6])] .none), (.sl [(.agg [(.str []), z6, z6, z6, z6, z6, z6])] .none), nS, nS, nS, nS, nS, nS]), (.agg [z6, (i6 1), (i6 4), z6, (i6 1), (i6 9), (.sl [(.agg [(.str [97, 32, 99, 97, 116]), z6, z6, z6, z6, z6, z6])] .none), (.sl [(.agg [(.str []), z6, z6, z6, z6, z6, z6])] .none), nS, nS, nS, nS, nS, nS])] .none), nS, nS, nS, nS, nS]), (.sl [(.agg [z6, (i6 1), (i6 1)]), (.agg [z6, (i6 1), (i6 2)]), (.agg [z6, (i6 1), (i6 3)])] .none), (.agg [z6, (i6 1), (i6 1)])], (.str [50])),
 ([(.agg [(.sl [(.agg [z6, (i6 1), (i6 8), (.sl [(.agg [(.str [99, 97, 116]), z6, z6, z6, z6, z6, z6])] .none), nS]), (.agg [z6, (i6 1), (i6 9), (.sl [(.agg [(.str [112, 101, 116]), z6, z6, z6, z6, z6, z6])] .none), nS])] .none), (.sl [(.agg [z6, (i6 1), (i6 1), z6, (i6 1), (i6 8), (.sl [(.agg [(.str [97, 32, 112, 101, 116]), z6, z6, z6, z6, z6, z6])] .none), (.sl [(.agg [(.str []), (i6 5), z6, z6, z6, z6, z6])] .none), nS, nS, nS, nS, (.sl [(.str [114, 97, 114, 101])] .none), (.sl [(.agg [z6, (i6 1), (i6 4)])] .none)]), (.agg [z6, (i6 1), (i6 2), z6, (i6 1), (i6 8), (.sl [(.agg [(.str [97]), z6, z6, z6, z6, z6, z6])] .none), (.sl [(.agg [(.str []), (i6 4), z6, z6, z6, z6, z6])] .none), nS, nS, nS, nS, nS, nS]), (.agg [z6, (i6 1), (i6 3), z6, (i6 1), (i6 1), (.sl [(.agg [(.str [97]), z6, z6, z6, z6, z6, z6])] .none), (.sl [(.agg [(.str []), z6, z6, z6, z6, z6, z6])] .none), nS, nS, nS, nS, nS, nS]), (.agg [z6, (i6 1), (i6 4), z6, (i6 1), (i6 9), (.sl [(.agg [(.str [97, 32, 99, 97, 116]), z6, z6, z6, z6, z6, z6])] .none), (.sl [(.agg [(.str []), z6, z6, z6, z6, z6, z6])] .none), nS, nS, nS, nS, nS, nS])] .none), nS, nS, nS, nS, nS]), (.sl [(.agg [z6, (i6 1), (i6 1)]), (.agg [z6, (i6 1), (i6 2)]), (.agg [z6, (i6 1), (i6 3)])] .none), (.agg [z6, (i6 1), (i6 2)])], (.str [49])),
 ([(.agg [(.sl [(.agg [z6, (i6 1), (i6 8), (.sl [(.agg [(.str [99, 97, 116]), z6, z6, z6, z6, z6, z6])] .none), nS]), (.agg [z6, (i6 1), (i6 9), (.sl [(.agg [(.str [112, 101, 116]), z6, z6, z6, z6, z6, z6])] .none), nS])] .none), (.sl [(.agg [z6, (i6 1), (i6 1), z6, (i6 1), (i6 8), (.sl [(.agg [(.str [97, 32, 112, 101, 116]), z6, z6, z6, z6, z6, z6])] .none), (.sl [(.agg [(.str []), (i6 5), z6, z6, z6, z6, z6])] .none), nS, nS, nS, nS, (.sl [(.str [114, 97, 114, 101])] .none), (.sl [(.agg [z6, (i6 1), (i6 4)])] .none)]), (.agg [z6, (i6 1), (i6 2), z6, (i6 1), (i6 8), (.sl [(.agg [(.str [97]), z6, z6, z6, z6, z6, z6])] .none), (.sl [(.agg [(.str []), (i6 4), z6, z6, z6, z6, z6])] .none), nS, nS, nS, nS, nS, nS]), (.agg [z6, (i6 1), (i6 3), z6, (i6 1), (i6 1), (.sl [(.agg [(.str [97]), z6, z6, z6, z6, z6, z6])] .none), (.sl [(.agg [(.str []), z6, z6, z6, z6, z6, z6])] .none), nS, nS, nS, nS, nS, nS]), (.agg [z6, (i6 1), (i6 4), z6, (i6 1), (i6 9), (.sl [(.agg [(.str [97, 32, 99, 97, 116]), z6, z6, z6, z6, z6, z6])] .none), (.sl [(.agg [(.str []), z6, z6, z6, z6, z6, z6])] .none), nS, nS, nS, nS, nS, nS])] .none), nS, nS, nS, nS, nS]), (.sl [(.agg [z6, (i6 1), (i6 1)]), (.agg [z6, (i6 1), (i6 2)]), (.agg [z6, (i6 1), (i6 3)])] .none), (.agg [z6, (i6 1), (i6 3)])], (.str [50, 46, 97])),
 ([(.agg [(.sl [(.agg [z6, (i6 1), (i6 8), (.sl [(.agg [(.str [99, 97, 116]), z6, z6, z6, z6, z6, z6])] .none), nS]), (.agg [z6, (i6 1), (i6 9), (.sl [(.agg [(.str [112, 101, 116]), z6, z6, z6, z6, z6, z6])] .none), nS])] .none), (.sl [(.agg [z6, (i6 1), (i6 1), z6, (i6 1), (i6 8), (.sl [(.agg [(.str [97, 32, 112, 101, 116]), z6, z6, z6, z6, z6, z6])] .none), (.sl [(.agg [(.str []), (i6 5), z6, z6, z6, z6, z6])] .none), nS, nS, nS, nS, (.sl [(.str [114, 97, 114, 101])] .none), (.sl [(.agg [z6, (i6 1), (i6 4)])] .none)]), (.agg [z6, (i6 1), (i6 2), z6, (i6 1), (i6 8), (.sl [(.agg [(.str [97]), z6, z6, z6, z6, z6, z6])] .none), (.sl [(.agg [(.str []), (i6 4), z6, z6, z6, z6, z6])] .none), nS, nS, nS, nS, nS, nS]), (.agg [z6, (i6 1), (i6 3), z6, (i6 1), (i6 1), (.sl [(.agg [(.str [97]), z6, z6, z6, z6, z6, z6])] .none), (.sl [(.agg [(.str []), z6, z6, z6, z6, z6, z6])] .none), nS, nS, nS, nS, nS, nS]), (.agg [z6, (i6 1), (i6 4), z6, (i6 1), (i6 9), (.sl [(.agg [(.str [97, 32, 99, 97, 116]), z6, z6, z6, z6, z6, z6])] .none), (.sl [(.agg [(.str []), z6, z6, z6, z6, z6, z6])] .none), nS, nS, nS, nS, nS, nS])] .none), nS, nS, nS, nS, nS]), (.sl [(.agg [z6, (i6 1), (i6 2)]), (.agg [z6, (i6 1), (i6 3)])] .none), (.agg [z6, (i6 1), (i6 3)])], (.str [49])),
 ([(.agg [(.sl [(.agg [z6, (i6 1), (i6 8), (.sl [(.agg [(.str [99, 97, 116]), z6, z6, z6, z6, z6, z6])] .none), nS]), (.agg [z6, (i6 1), (i6 9), (.sl [(.agg [(.str [112, 101, 116]), z6, z6, z6, z6, z6, z6])] .none), nS])] .none), (.sl [(.agg [z6, (i6 1), (i6 1), z6, (i6 1), (i6 8), (.sl [(.agg [(.str [97, 32, 112, 101, 116]), z6, z6, z6, z6, z6, z6])] .none), (.sl [(.agg [(.str []), (i6 5), z6, z6, z6, z6, z6])] .none), nS, nS, nS, nS, (.sl [(.str [114, 97, 114, 101])] .none), (.sl [(.agg [z6, (i6 1), (i6 4)])] .none)]), (.agg [z6, (i6 1), (i6 2), z6, (i6 1), (i6 8), (.sl [(.agg [(.str [97]), z6, z6, z6, z6, z6, z6])] .none), (.sl [(.agg [(.str []), (i6 4), z6, z6, z6, z6, z6])] .none), nS, nS, nS, nS, nS, nS]), (.agg [z6, (i6 1), (i6 3), z6, (i6 1), (i6 1), (.sl [(.agg [(.str [97]), z6, z6, z6, z6, z6, z6])] .none), (.sl [(.agg [(.str []), z6, z6, z6, z6, z6, z6])] .none), nS, nS, nS, nS, nS, nS]), (.agg [z6, (i6 1), (i6 4), z6, (i6 1), (i6 9), (.sl [(.agg [(.str [97, 32, 99, 97, 116]), z6, z6, z6, z6, z6, z6])] .none), (.sl [(.agg [(.str []), z6, z6, z6, z6, z6, z6])] .none), nS, nS, nS, nS, nS, nS])] .none), nS, nS, nS, nS, nS]), (.sl [(.agg [z6, (i6 1), (i6 2)]), (.agg [z6, (i6 1), (i6 3)])] .none), (.agg [z6, (i6 1), (i6 2)])], (.str [50]))]
def memo5 : List (List AVal × AVal) := [([(.agg [(i6 3), (i6 5), (i6 4), (i6 100), nS]), (i6 3), (.bool false)], (i6 5)),
 ([(.agg [(i6 3), (i6 5), (i6 4), (i6 100), nS]), z6, (.bool false)], (i6 5))]
def memo6 : List (List AVal × AVal) := [([(.agg [(.sl [(.agg [z6, (i6 1), (i6 8), (.sl [(.agg [(.str [99, 97, 116]), z6, z6, z6, z6, z6, z6])] .none), nS]), (.agg [z6, (i6 1), (i6 9), (.sl [(.agg [(.str [112, 101, 116]), z6, z6, z6, z6, z6, z6])] .none), nS])] .none), (.sl [(.agg [z6, (i6 1), (i6 1), z6, (i6 1), (i6 8), (.sl [(.agg [(.str [97, 32, 112, 101, 116]), z6, z6, z6, z6, z6, z6])] .none), (.sl [(.agg [(.str []), (i6 5), z6, z6, z6, z6, z6])] .none), nS, nS, nS, nS, (.sl [(.str [114, 97, 114, 101])] .none), (.sl [(.agg [z6, (i6 1), (i6 4)])] .none)]), (.agg [z6, (i6 1), (i6 2), z6, (i6 1), (i6 8), (.sl [(.agg [(.str [97]), z6, z6, z6, z6, z6, z6])] .none), (.sl [(.agg [(.str []), (i6 4), z6, z6, z6, z6, z6])] .none), nS, nS, nS, nS, nS, nS]), (.agg [z6, (i6 1), (i6 3), z6, (i6 1), (i6 1), (.sl [(.agg [(.str [97]), z6, z6, z6, z6, z6, z6])] .none), (.sl [(.agg [(.str []), z6, z6, z6, z6, z6, z6])] .none), nS, nS, nS, nS, nS, nS]), (.agg [z6, (i6 1), (i6 4), z6, (i6 1), (i6 9), (.sl [(.agg [(.str [97, 32, 99, 97, 116]), z6, z6, z6, z6, z6, z6])] .none), (.sl [(.agg [(.str []), z6, z6, z6, z6, z6, z6])] .none), nS, nS, nS, nS, nS, nS])] .none), nS, nS, nS, nS, nS]), (.agg [z6, (i6 1), (i6 2)])], (i6 4)),
 ([(.agg [(.sl [(.agg [z6, (i6 1), (i6 8), (.sl [(.agg [(.str [99, 97, 116]), z6, z6, z6, z6, z6, z6])] .none), nS]), (.agg [z6, (i6 1), (i6 9), (.sl [(.agg [(.str [112, 101, 116]), z6, z6, z6, z6, z6, z6])] .none), nS])] .none), (.sl [(.agg [z6, (i6 1), (i6 1), z6, (i6 1), (i6 8), (.sl [(.agg [(.str [97, 32, 112, 101, 116]), z6, z6, z6, z6, z6, z6])] .none), (.sl [(.agg [(.str []), (i6 5), z6, z6, z6, z6, z6])] .none), nS, nS, nS, nS, (.sl [(.str [114, 97, 114, 101])] .none), (.sl [(.agg [z6, (i6 1), (i6 4)])] .none)]), (.agg [z6, (i6 1), (i6 2), z6, (i6 1), (i6 8), (.sl [(.agg [(.str [97]), z6, z6, z6, z6, z6, z6])] .none), (.sl [(.agg [(.str []), (i6 4), z6, z6, z6, z6, z6])] .none), nS, nS, nS, nS, nS, nS]), (.agg [z6, (i6 1), (i6 3), z6, (i6 1), (i6 1), (.sl [(.agg [(.str [97]), z6, z6, z6, z6, z6, z6])] .none), (.sl [(.agg [(.str []), z6, z6, z6, z6, z6, z6])] .none), nS, nS, nS, nS, nS, nS]), (.agg [z6, (i6 1), (i6 4), z6, (i6 1), (i6 9), (.sl [(.agg [(.str [97, 32, 99, 97, 116]), z6, z6, z6, z6, z6, z6])] .none), (.sl [(.agg [(.str []), z6, z6, z6, z6, z6, z6])] .none), nS, nS, nS, nS, nS, nS])] .none), nS, nS, nS, nS, nS]), (.agg [z6, (i6 1), (i6 1)])], (i6 5)),
 ([(.agg [(.sl [(.agg [z6, (i6 1), (i6 8), (.sl [(.agg [(.str [99, 97, 116]), z6, z6, z6, z6, z6, z6])] .none), nS]), (.agg [z6, (i6 1), (i6 9), (.sl [(.agg [(.str [112, 101, 116]), z6, z6, z6, z6, z6, z6])] .none), nS])] .none), (.sl [(.agg [z6, (i6 1), (i6 1), z6, (i6 1), (i6 8), (.sl [(.agg [(.str [97, 32, 112, 101, 116]), z6, z6, z6, z6, z6, z6])] .none), (.sl [(.agg [(.str []), (i6 5), z6, z6, z6, z6, z6])] .none), nS, nS, nS, nS, (.sl [(.str [114, 97, 114, 101])] .none), (.sl [(.agg [z6, (i6 1), (i6 4)])] .none)]), (.agg [z6, (i6 1), (i6 2), z6, (i6 1), (i6 8), (.sl [(.agg [(.str [97]), z6, z6, z6, z6, z6, z6])] .none), (.sl [(.agg [(.str []), (i6 4), z6, z6, z6, z6, z6])] .none), nS, nS, nS, nS, nS, nS]), (.agg [z6, (i6 1), (i6 3), z6, (i6 1), (i6 1), (.sl [(.agg [(.str [97]), z6, z6, z6, z6, z6, z6])] .none), (.sl [(.agg [(.str []), z6, z6, z6, z6, z6, z6])] .none), nS, nS, nS, nS, nS, nS]), (.agg [z6, (i6 1), (i6 4), z6, (i6 1), (i6 9), (.sl [(.agg [(.str [97, 32, 99, 97, 116]), z6, z6, z6, z6, z6, z6])] .none), (.sl [(.agg [(.str []), z6, z6, z6, z6, z6, z6])] .none), nS, nS, nS, nS, nS, nS])] .none), nS, nS, nS, nS, nS]), (.agg [z6, (i6 1), (i6 3)])], z6)]
end Go.Proofs.YthhdkkecolocdaaGreatDoor

namespace Go.Abs
variable {P : Program} {Hh : Hints} {F : Nat → Option AEnt}
def memoS (l : List (List AVal × AVal)) (args : List AVal) (h : Heap) : Option (AVal × Heap) :=
 match h with
 | ⟨0, .leaf⟩ => match l.find? (fun e => AVal.beqL args e.1) with
   | some e => some (e.2, ⟨0, .leaf⟩)
   | none => none
 | _ => none
def memoB (F : Nat → Option AEnt) (g n : Nat) (l : List (List AVal × AVal)) : Bool := l.all fun e => match run F n (.call g e.1 Heap.empty) with
 | some (.val r h0) => (match purify h0 r with
   | some r' => AVal.beq r' e.2
   | none => false)
 | _ => false
theorem memo_ok (hmix : P.follows .mixedOrders = true) (hT : Table P Hh F) {g n : Nat} {l : List (List AVal × AVal)} (hb : memoB F g n l = true) (hen : ∀ (args : Array Value) (w : World), (callFunc g args).run P w = .ok (.enter g args) w) : HandOkE P Hh g (memoS l) := by
 refine ⟨fun args h r h' e => ?_, hen⟩
 unfold memoS at e
 split at e
 ·split at e
  ·rename_i x hx
   simp only [Option.some.injEq, Prod.mk.injEq] at e
   obtain ⟨rfl, rfl⟩ := e
   have hm := List.mem_of_find?_eq_some hx
   have hq := List.find?_some hx
   obtain rfl := AVal.beqL_eq _ _ hq
   have key := List.all_eq_true.1 hb _ hm
   split at key
   ·rename_i r0 h0 hr
    split at key
    ·rename_i r' hp
     intro w G cargs hE H hpt
     refine (sound hmix hT hr w G cargs hE H hpt).mono ?_
     rintro e w' ⟨v, G1, he, hX, H1, hv⟩
     obtain ⟨G', q1, q2, q3⟩ := drop_pure H hX H1 hv hp
     rw [AVal.beq_eq _ _ key] at q3
     exact ⟨v, G', he, q1, q2, q3⟩
    ·simp at key
   ·simp at key
  ·simp at e
 ·simp at e
end Go.Abs
namespace Go.Proofs.YthhdkkecolocdaaGreatDoor
open Go Go.Abs
theorem mixedV : Tryz.prog.follows .mixedOrders = true := by kernel_rfl
set_option maxRecDepth 1000000 in
theorem mb0 : memoB FV 26 3000 memo0 = true := by kernel_rfl
noncomputable def F1 (g : Nat) : Option AEnt := if g = 26 then some (.hand (memoS memo0)) else FV g
theorem table1 : Table Tryz.prog hintsV F1 := by
 intro g
 unfold F1
 split
 ·rename_i e; subst e
  exact ⟨memo_ok mixedV tableV mb0 (fun args w => callFunc_enter (tableV.comp (show FV 26 = some (.comp cV26) from rfl)) args w), fun q => by simp [hintsV] at q⟩
 ·exact tableV g
set_option maxRecDepth 1000000 in
theorem mb1 : memoB F1 28 3000 memo1 = true := by kernel_rfl
set_option maxRecDepth 1000000 in
theorem mb2 : memoB F1 117 3000 memo2 = true := by kernel_rfl
set_option maxRecDepth 1000000 in
theorem mb5 : memoB F1 163 3000 memo5 = true := by kernel_rfl
set_option maxRecDepth 1000000 in
theorem mb6 : memoB F1 108 3000 memo6 = true := by kernel_rfl
noncomputable def F2 (g : Nat) : Option AEnt := if g = 28 then some (.hand (memoS memo1)) else if g = 117 then some (.hand (memoS memo2)) else if g = 163 then some (.hand (memoS memo5)) else if g = 108 then some (.hand (memoS memo6)) else F1 g
theorem table2 : Table Tryz.prog hintsV F2 := by
 intro g
 unfold F2
 split
 ·rename_i e; subst e
  exact ⟨memo_ok mixedV table1 mb1 (fun args w => callFunc_enter (tableV.comp (show FV 28 = some (.comp cV28) from rfl)) args w), fun q => by simp [hintsV] at q⟩
 split
 ·rename_i e; subst e
  exact ⟨memo_ok mixedV table1 mb2 (fun args w => callFunc_enter (tableV.comp (show FV 117 = some (.comp cV117) from rfl)) args w), fun q => by simp [hintsV] at q⟩
 split
 ·rename_i e; subst e
  exact ⟨memo_ok mixedV table1 mb5 (fun args w => callFunc_enter (tableV.comp (show FV 163 = some (.comp cV163) from rfl)) args w), fun q => by simp [hintsV] at q⟩
 split
 ·rename_i e; subst e
  exact ⟨memo_ok mixedV table1 mb6 (fun args w => callFunc_enter (tableV.comp (show FV 108 = some (.comp cV108) from rfl)) args w), fun q => by simp [hintsV] at q⟩
 ·exact table1 g
set_option maxRecDepth 1000000 in
theorem mb3 : memoB F2 162 3000 memo3 = true := by kernel_rfl
set_option maxRecDepth 1000000 in
theorem mb4 : memoB F2 15 3000 memo4 = true := by kernel_rfl
noncomputable def F3 (g : Nat) : Option AEnt := if g = 162 then some (.hand (memoS memo3)) else if g = 15 then some (.hand (memoS memo4)) else F2 g
theorem table3 : Table Tryz.prog hintsV F3 := by
 intro g
 unfold F3
 split
 ·rename_i e; subst e
  exact ⟨memo_ok mixedV table2 mb3 (fun args w => callFunc_enter (tableV.comp (show FV 162 = some (.comp cV162) from rfl)) args w), fun q => by simp [hintsV] at q⟩
 split
 ·rename_i e; subst e
  exact ⟨memo_ok mixedV table2 mb4 (fun args w => callFunc_enter (tableV.comp (show FV 15 = some (.comp cV15) from rfl)) args w), fun q => by simp [hintsV] at q⟩
 ·exact table2 g
end Go.Proofs.YthhdkkecolocdaaGreatDoor

namespace Go.Proofs.YthhdkkecolocdaaGreatDoor
open Go Go.Abs
noncomputable def pv0 : List AVal := cV14.slots.map fun _ => .tup []
def ph0 : Heap := Heap.empty
def pv1 : List AVal := [(.bool false), tN, tN, tN, tN, tN, tN, tN, tN, tN, tN, tN, tN, tN, tN, tN, tN, tN, tN]
def ph1 : Heap := ⟨0, .leaf⟩
def pv2 : List AVal := [(.bool false), (.sl [(.agg [(.str [97]), z6, z6, z6, (i6 5)]), (.agg [(.str [99]), (i6 1), z6, z6, (i6 5)]), (.agg [(.str [101]), (i6 2), z6, z6, (i6 5)]), (.agg [(.str [112]), (i6 3), z6, z6, (i6 5)]), (.agg [(.str [116]), (i6 4), z6, z6, (i6 5)])] .none), tN, tN, tN, tN, tN, tN, tN, tN, tN, tN, tN, tN, tN, tN, tN, tN, tN]
def ph2 : Heap := ⟨0, .leaf⟩
def pv3 : List AVal := [(.bool false), .bad, (.ptr 0 0), tN, tN, tN, tN, tN, tN, tN, tN, tN, tN, tN, tN, tN, tN, tN, tN]
def ph3 : Heap := ⟨1, (.node (some (.row true 1000047 true [(.sl [(.agg [(.str [97]), z6, z6, z6, (i6 5)]), (.agg [(.str [99]), (i6 1), z6, z6, (i6 5)]), (.agg [(.str [101]), (i6 2), z6, z6, (i6 5)]), (.agg [(.str [112]), (i6 3), z6, z6, (i6 5)]), (.agg [(.str [116]), (i6 4), z6, z6, (i6 5)])] .none), nS, nS, nS, nS, nS, nS, nS, nS, (i6 3), (i6 5), (i6 4), (i6 100), nS, (i6 200), z6, z6])) .leaf .leaf)⟩
def pv4 : List AVal := [(.bool false), .bad, (.ptr 0 0), (.ptr 1 0), tN, tN, tN, tN, tN, tN, tN, tN, tN, tN, tN, tN, tN, tN, tN]
def ph4 : Heap := ⟨3, (.node (some (.row true 1000047 true [(.sl [(.agg [(.str [97]), z6, z6, z6, (i6 5)]), (.agg [(.str [99]), (i6 1), z6, z6, (i6 5)]), (.agg [(.str [101]), (i6 2), z6, z6, (i6 5)]), (.agg [(.str [112]), (i6 3), z6, z6, (i6 5)]), (.agg [(.str [116]), (i6 4), z6, z6, (i6 5)])] .none), nS, nS, nS, nS, nS, nS, nS, nS, (i6 3), (i6 5), (i6 4), (i6 100), nS, (i6 200), z6, z6])) (.node (some (.row true 1000031 true [(.sl [(.agg [z6, (i6 1), (i6 8), (.sl [(.agg [(.str [99, 97, 116]), z6, z6, z6, z6, z6, z6])] .none), nS]), (.agg [z6, (i6 1), (i6 9), (.sl [(.agg [(.str [112, 101, 116]), z6, z6, z6, z6, z6, z6])] .none), nS])] .none), (.ref 2 0 4 14), nS, nS, nS, nS, nS])) .leaf .leaf) (.node (some (.row true 14 true [z6, (i6 1), (i6 1), z6, (i6 1), (i6 8), (.sl [(.agg [(.str [97, 32, 112, 101, 116]), z6, z6, z6, z6, z6, z6])] .none), (.sl [(.agg [(.str []), (i6 5), z6, z6, z6, z6, z6])] .none), nS, nS, nS, nS, nS, nS, z6, (i6 1), (i6 2), z6, (i6 1), (i6 8), (.sl [(.agg [(.str [97]), z6, z6, z6, z6, z6, z6])] .none), (.sl [(.agg [(.str []), (i6 4), z6, z6, z6, z6, z6])] .none), nS, nS, nS, nS, nS, nS, z6, (i6 1), (i6 3), z6, (i6 1), (i6 1), (.sl [(.agg [(.str [97]), z6, z6, z6, z6, z6, z6])] .none), (.sl [(.agg [(.str []), z6, z6, z6, z6, z6, z6])] .none), nS, nS, nS, nS, nS, nS, z6, (i6 1), (i6 4), z6, (i6 1), (i6 9), (.sl [(.agg [(.str [97, 32, 99, 97, 116]), z6, z6, z6, z6, z6, z6])] .none), (.sl [(.agg [(.str []), z6, z6, z6, z6, z6, z6])] .none), nS, nS, nS, nS, nS, nS])) .leaf .leaf))⟩
def pv5 : List AVal := [(.bool false), .bad, (.ptr 0 0), (.ptr 1 0), tN, tN, tN, tN, tN, tN, tN, tN, tN, tN, tN, tN, tN, tN, tN]
def ph5 : Heap := ⟨3, (.node (some (.row true 1000047 true [(.sl [(.agg [(.str [97]), z6, z6, z6, (i6 5)]), (.agg [(.str [99]), (i6 1), z6, z6, (i6 5)]), (.agg [(.str [101]), (i6 2), z6, z6, (i6 5)]), (.agg [(.str [112]), (i6 3), z6, z6, (i6 5)]), (.agg [(.str [116]), (i6 4), z6, z6, (i6 5)])] .none), nS, nS, nS, nS, nS, nS, nS, nS, (i6 3), (i6 5), (i6 4), (i6 100), nS, (i6 200), z6, z6])) (.node (some (.row true 1000031 true [(.sl [(.agg [z6, (i6 1), (i6 8), (.sl [(.agg [(.str [99, 97, 116]), z6, z6, z6, z6, z6, z6])] .none), nS]), (.agg [z6, (i6 1), (i6 9), (.sl [(.agg [(.str [112, 101, 116]), z6, z6, z6, z6, z6, z6])] .none), nS])] .none), (.ref 2 0 4 14), nS, nS, nS, nS, nS])) .leaf .leaf) (.node (some (.row true 14 true [z6, (i6 1), (i6 1), z6, (i6 1), (i6 8), (.sl [(.agg [(.str [97, 32, 112, 101, 116]), z6, z6, z6, z6, z6, z6])] .none), (.sl [(.agg [(.str []), (i6 5), z6, z6, z6, z6, z6])] .none), nS, nS, nS, nS, (.sl [(.str [114, 97, 114, 101])] .none), nS, z6, (i6 1), (i6 2), z6, (i6 1), (i6 8), (.sl [(.agg [(.str [97]), z6, z6, z6, z6, z6, z6])] .none), (.sl [(.agg [(.str []), (i6 4), z6, z6, z6, z6, z6])] .none), nS, nS, nS, nS, nS, nS, z6, (i6 1), (i6 3), z6, (i6 1), (i6 1), (.sl [(.agg [(.str [97]), z6, z6, z6, z6, z6, z6])] .none), (.sl [(.agg [(.str []), z6, z6, z6, z6, z6, z6])] .none), nS, nS, nS, nS, nS, nS, z6, (i6 1), (i6 4), z6, (i6 1), (i6 9), (.sl [(.agg [(.str [97, 32, 99, 97, 116]), z6, z6, z6, z6, z6, z6])] .none), (.sl [(.agg [(.str []), z6, z6, z6, z6, z6, z6])] .none), nS, nS, nS, nS, nS, nS])) .leaf .leaf))⟩
def pv6 : List AVal := [(.bool false), .bad, (.ptr 0 0), (.ptr 1 0), tN, tN, tN, tN, tN, tN, tN, tN, tN, tN, tN, tN, tN, tN, tN]
def ph6 : Heap := ⟨3, (.node (some (.row true 1000047 true [(.sl [(.agg [(.str [97]), z6, z6, z6, (i6 5)]), (.agg [(.str [99]), (i6 1), z6, z6, (i6 5)]), (.agg [(.str [101]), (i6 2), z6, z6, (i6 5)]), (.agg [(.str [112]), (i6 3), z6, z6, (i6 5)]), (.agg [(.str [116]), (i6 4), z6, z6, (i6 5)])] .none), nS, nS, nS, nS, nS, nS, nS, nS, (i6 3), (i6 5), (i6 4), (i6 100), nS, (i6 200), z6, z6])) (.node (some (.row true 1000031 true [(.sl [(.agg [z6, (i6 1), (i6 8), (.sl [(.agg [(.str [99, 97, 116]), z6, z6, z6, z6, z6, z6])] .none), nS]), (.agg [z6, (i6 1), (i6 9), (.sl [(.agg [(.str [112, 101, 116]), z6, z6, z6, z6, z6, z6])] .none), nS])] .none), (.ref 2 0 4 14), nS, nS, nS, nS, nS])) .leaf .leaf) (.node (some (.row true 14 true [z6, (i6 1), (i6 1), z6, (i6 1), (i6 8), (.sl [(.agg [(.str [97, 32, 112, 101, 116]), z6, z6, z6, z6, z6, z6])] .none), (.sl [(.agg [(.str []), (i6 5), z6, z6, z6, z6, z6])] .none), nS, nS, nS, nS, (.sl [(.str [114, 97, 114, 101])] .none), (.sl [(.agg [z6, (i6 1), (i6 4)])] .none), z6, (i6 1), (i6 2), z6, (i6 1), (i6 8), (.sl [(.agg [(.str [97]), z6, z6, z6, z6, z6, z6])] .none), (.sl [(.agg [(.str []), (i6 4), z6, z6, z6, z6, z6])] .none), nS, nS, nS, nS, nS, nS, z6, (i6 1), (i6 3), z6, (i6 1), (i6 1), (.sl [(.agg [(.str [97]), z6, z6, z6, z6, z6, z6])] .none), (.sl [(.agg [(.str []), z6, z6, z6, z6, z6, z6])] .none), nS, nS, nS, nS, nS, nS, z6, (i6 1), (i6 4), z6, (i6 1), (i6 9), (.sl [(.agg [(.str [97, 32, 99, 97, 116]), z6, z6, z6, z6, z6, z6])] .none), (.sl [(.agg [(.str []), z6, z6, z6, z6, z6, z6])] .none), nS, nS, nS, nS, nS, nS])) .leaf .leaf))⟩
def pv7 : List AVal := [(.bool false), .bad, (.ptr 0 0), (.ptr 1 0), (.sl [(.agg [z6, (i6 1), (i6 1)]), (.agg [z6, (i6 1), (i6 2)]), (.agg [z6, (i6 1), (i6 3)])] .none), tN, tN, tN, tN, tN, tN, tN, tN, tN, tN, tN, tN, tN, tN]
def ph7 : Heap := ⟨3, (.node (some (.row true 1000047 true [(.sl [(.agg [(.str [97]), z6, z6, z6, (i6 5)]), (.agg [(.str [99]), (i6 1), z6, z6, (i6 5)]), (.agg [(.str [101]), (i6 2), z6, z6, (i6 5)]), (.agg [(.str [112]), (i6 3), z6, z6, (i6 5)]), (.agg [(.str [116]), (i6 4), z6, z6, (i6 5)])] .none), nS, nS, nS, nS, nS, nS, nS, nS, (i6 3), (i6 5), (i6 4), (i6 100), nS, (i6 200), z6, z6])) (.node (some (.row true 1000031 true [(.sl [(.agg [z6, (i6 1), (i6 8), (.sl [(.agg [(.str [99, 97, 116]), z6, z6, z6, z6, z6, z6])] .none), nS]), (.agg [z6, (i6 1), (i6 9), (.sl [(.agg [(.str [112, 101, 116]), z6, z6, z6, z6, z6, z6])] .none), nS])] .none), (.ref 2 0 4 14), nS, nS, nS, nS, nS])) .leaf .leaf) (.node (some (.row true 14 true [z6, (i6 1), (i6 1), z6, (i6 1), (i6 8), (.sl [(.agg [(.str [97, 32, 112, 101, 116]), z6, z6, z6, z6, z6, z6])] .none), (.sl [(.agg [(.str []), (i6 5), z6, z6, z6, z6, z6])] .none), nS, nS, nS, nS, (.sl [(.str [114, 97, 114, 101])] .none), (.sl [(.agg [z6, (i6 1), (i6 4)])] .none), z6, (i6 1), (i6 2), z6, (i6 1), (i6 8), (.sl [(.agg [(.str [97]), z6, z6, z6, z6, z6, z6])] .none), (.sl [(.agg [(.str []), (i6 4), z6, z6, z6, z6, z6])] .none), nS, nS, nS, nS, nS, nS, z6, (i6 1), (i6 3), z6, (i6 1), (i6 1), (.sl [(.agg [(.str [97]), z6, z6, z6, z6, z6, z6])] .none), (.sl [(.agg [(.str []), z6, z6, z6, z6, z6, z6])] .none), nS, nS, nS, nS, nS, nS, z6, (i6 1), (i6 4), z6, (i6 1), (i6 9), (.sl [(.agg [(.str [97, 32, 99, 97, 116]), z6, z6, z6, z6, z6, z6])] .none), (.sl [(.agg [(.str []), z6, z6, z6, z6, z6, z6])] .none), nS, nS, nS, nS, nS, nS])) .leaf .leaf))⟩
def pv8 : List AVal := [(.bool false), .bad, (.ptr 0 0), (.ptr 1 0), (.sl [(.agg [z6, (i6 1), (i6 1)]), (.agg [z6, (i6 1), (i6 2)]), (.agg [z6, (i6 1), (i6 3)])] .none), (.sl [(.agg [z6, (i6 1), (i6 8)])] (.own 2 3)), (.sl [(.sl [(.agg [z6, (i6 1), (i6 2)]), (.agg [z6, (i6 1), (i6 1)]), (.agg [z6, (i6 1), (i6 3)])] .none)] (.own 3 1)), z6, tN, tN, tN, tN, tN, tN, tN, tN, tN, tN, tN]
def ph8 : Heap := ⟨5, (.node (some (.row true 1000047 true [(.sl [(.agg [(.str [97]), z6, z6, z6, (i6 5)]), (.agg [(.str [99]), (i6 1), z6, z6, (i6 5)]), (.agg [(.str [101]), (i6 2), z6, z6, (i6 5)]), (.agg [(.str [112]), (i6 3), z6, z6, (i6 5)]), (.agg [(.str [116]), (i6 4), z6, z6, (i6 5)])] .none), nS, nS, nS, nS, nS, nS, nS, nS, (i6 3), (i6 5), (i6 4), (i6 100), nS, (i6 200), z6, z6])) (.node (some (.row true 1000031 true [(.sl [(.agg [z6, (i6 1), (i6 8), (.sl [(.agg [(.str [99, 97, 116]), z6, z6, z6, z6, z6, z6])] .none), nS]), (.agg [z6, (i6 1), (i6 9), (.sl [(.agg [(.str [112, 101, 116]), z6, z6, z6, z6, z6, z6])] .none), nS])] .none), (.ref 4 0 4 14), nS, nS, nS, nS, nS])) (.node (some (.tok 49)) .leaf .leaf) .leaf) (.node (some (.tok 62)) (.node (some (.row true 14 true [z6, (i6 1), (i6 1), z6, (i6 1), (i6 8), (.sl [(.agg [(.str [97, 32, 112, 101, 116]), z6, z6, z6, z6, z6, z6])] .none), (.sl [(.agg [(.str []), (i6 5), z6, z6, z6, z6, z6])] .none), nS, nS, nS, nS, (.sl [(.str [114, 97, 114, 101])] .none), (.sl [(.agg [z6, (i6 1), (i6 4)])] .none), z6, (i6 1), (i6 2), z6, (i6 1), (i6 8), (.sl [(.agg [(.str [97]), z6, z6, z6, z6, z6, z6])] .none), (.sl [(.agg [(.str []), (i6 4), z6, z6, z6, z6, z6])] .none), nS, nS, nS, nS, nS, nS, z6, (i6 1), (i6 3), z6, (i6 1), (i6 1), (.sl [(.agg [(.str [97]), z6, z6, z6, z6, z6, z6])] .none), (.sl [(.agg [(.str []), z6, z6, z6, z6, z6, z6])] .none), nS, nS, nS, nS, nS, nS, z6, (i6 1), (i6 4), z6, (i6 1), (i6 9), (.sl [(.agg [(.str [97, 32, 99, 97, 116]), z6, z6, z6, z6, z6, z6])] .none), (.sl [(.agg [(.str []), z6, z6, z6, z6, z6, z6])] .none), nS, nS, nS, nS, nS, nS])) .leaf .leaf) .leaf))⟩
def pv9 : List AVal := [(.bool false), .bad, (.ptr 0 0), (.ptr 1 0), (.sl [(.agg [z6, (i6 1), (i6 1)]), (.agg [z6, (i6 1), (i6 2)]), (.agg [z6, (i6 1), (i6 3)])] .none), (.sl [(.agg [z6, (i6 1), (i6 8)])] (.own 2 3)), (.sl [(.sl [(.agg [z6, (i6 1), (i6 2)]), (.agg [z6, (i6 1), (i6 1)]), (.agg [z6, (i6 1), (i6 3)])] .none)] (.own 3 1)), z6, (.bool true), tN, tN, tN, tN, tN, tN, tN, tN, tN, tN]
def ph9 : Heap := ⟨5, (.node (some (.row true 1000047 true [(.sl [(.agg [(.str [97]), z6, z6, z6, (i6 5)]), (.agg [(.str [99]), (i6 1), z6, z6, (i6 5)]), (.agg [(.str [101]), (i6 2), z6, z6, (i6 5)]), (.agg [(.str [112]), (i6 3), z6, z6, (i6 5)]), (.agg [(.str [116]), (i6 4), z6, z6, (i6 5)])] .none), nS, nS, nS, nS, nS, nS, nS, nS, (i6 3), (i6 5), (i6 4), (i6 100), nS, (i6 200), z6, z6])) (.node (some (.row true 1000031 true [(.sl [(.agg [z6, (i6 1), (i6 8), (.sl [(.agg [(.str [99, 97, 116]), z6, z6, z6, z6, z6, z6])] .none), nS]), (.agg [z6, (i6 1), (i6 9), (.sl [(.agg [(.str [112, 101, 116]), z6, z6, z6, z6, z6, z6])] .none), nS])] .none), (.ref 4 0 4 14), nS, nS, nS, nS, nS])) (.node (some (.tok 49)) .leaf .leaf) .leaf) (.node (some (.tok 62)) (.node (some (.row true 14 true [z6, (i6 1), (i6 1), z6, (i6 1), (i6 8), (.sl [(.agg [(.str [97, 32, 112, 101, 116]), z6, z6, z6, z6, z6, z6])] .none), (.sl [(.agg [(.str []), (i6 5), z6, z6, z6, z6, z6])] .none), nS, nS, nS, nS, (.sl [(.str [114, 97, 114, 101])] .none), (.sl [(.agg [z6, (i6 1), (i6 4)])] .none), z6, (i6 1), (i6 2), z6, (i6 1), (i6 8), (.sl [(.agg [(.str [97]), z6, z6, z6, z6, z6, z6])] .none), (.sl [(.agg [(.str []), (i6 4), z6, z6, z6, z6, z6])] .none), nS, nS, nS, nS, nS, nS, z6, (i6 1), (i6 3), z6, (i6 1), (i6 1), (.sl [(.agg [(.str [97]), z6, z6, z6, z6, z6, z6])] .none), (.sl [(.agg [(.str []), z6, z6, z6, z6, z6, z6])] .none), nS, nS, nS, nS, nS, nS, z6, (i6 1), (i6 4), z6, (i6 1), (i6 9), (.sl [(.agg [(.str [97, 32, 99, 97, 116]), z6, z6, z6, z6, z6, z6])] .none), (.sl [(.agg [(.str []), z6, z6, z6, z6, z6, z6])] .none), nS, nS, nS, nS, nS, nS])) .leaf .leaf) .leaf))⟩
def pv10 : List AVal := [(.bool false), .bad, (.ptr 0 0), (.ptr 1 0), (.sl [(.agg [z6, (i6 1), (i6 1)]), (.agg [z6, (i6 1), (i6 2)]), (.agg [z6, (i6 1), (i6 3)])] .none), (.sl [(.agg [z6, (i6 1), (i6 8)])] (.own 2 3)), (.sl [(.sl [(.agg [z6, (i6 1), (i6 2)]), (.agg [z6, (i6 1), (i6 1)]), (.agg [z6, (i6 1), (i6 3)])] .none)] (.own 3 1)), z6, (.bool true), (.bool true), tN, tN, tN, tN, tN, tN, tN, tN, tN]
def ph10 : Heap := ⟨5, (.node (some (.row true 1000047 true [(.sl [(.agg [(.str [97]), z6, z6, z6, (i6 5)]), (.agg [(.str [99]), (i6 1), z6, z6, (i6 5)]), (.agg [(.str [101]), (i6 2), z6, z6, (i6 5)]), (.agg [(.str [112]), (i6 3), z6, z6, (i6 5)]), (.agg [(.str [116]), (i6 4), z6, z6, (i6 5)])] .none), nS, nS, nS, nS, nS, nS, nS, nS, (i6 3), (i6 5), (i6 4), (i6 100), nS, (i6 200), z6, z6])) (.node (some (.row true 1000031 true [(.sl [(.agg [z6, (i6 1), (i6 8), (.sl [(.agg [(.str [99, 97, 116]), z6, z6, z6, z6, z6, z6])] .none), nS]), (.agg [z6, (i6 1), (i6 9), (.sl [(.agg [(.str [112, 101, 116]), z6, z6, z6, z6, z6, z6])] .none), nS])] .none), (.ref 4 0 4 14), nS, nS, nS, nS, nS])) (.node (some (.tok 49)) .leaf .leaf) .leaf) (.node (some (.tok 62)) (.node (some (.row true 14 true [z6, (i6 1), (i6 1), z6, (i6 1), (i6 8), (.sl [(.agg [(.str [97, 32, 112, 101, 116]), z6, z6, z6, z6, z6, z6])] .none), (.sl [(.agg [(.str []), (i6 5), z6, z6, z6, z6, z6])] .none), nS, nS, nS, nS, (.sl [(.str [114, 97, 114, 101])] .none), (.sl [(.agg [z6, (i6 1), (i6 4)])] .none), z6, (i6 1), (i6 2), z6, (i6 1), (i6 8), (.sl [(.agg [(.str [97]), z6, z6, z6, z6, z6, z6])] .none), (.sl [(.agg [(.str []), (i6 4), z6, z6, z6, z6, z6])] .none), nS, nS, nS, nS, nS, nS, z6, (i6 1), (i6 3), z6, (i6 1), (i6 1), (.sl [(.agg [(.str [97]), z6, z6, z6, z6, z6, z6])] .none), (.sl [(.agg [(.str []), z6, z6, z6, z6, z6, z6])] .none), nS, nS, nS, nS, nS, nS, z6, (i6 1), (i6 4), z6, (i6 1), (i6 9), (.sl [(.agg [(.str [97, 32, 99, 97, 116]), z6, z6, z6, z6, z6, z6])] .none), (.sl [(.agg [(.str []), z6, z6, z6, z6, z6, z6])] .none), nS, nS, nS, nS, nS, nS])) .leaf .leaf) .leaf))⟩
def pv11 : List AVal := [(.bool false), .bad, (.ptr 0 0), (.ptr 1 0), (.sl [(.agg [z6, (i6 1), (i6 1)]), (.agg [z6, (i6 1), (i6 2)]), (.agg [z6, (i6 1), (i6 3)])] .none), (.sl [(.agg [z6, (i6 1), (i6 8)])] (.own 2 3)), (.sl [(.sl [(.agg [z6, (i6 1), (i6 2)]), (.agg [z6, (i6 1), (i6 1)]), (.agg [z6, (i6 1), (i6 3)])] .none)] (.own 3 1)), z6, (.bool true), (.bool true), (.ptr 4 0), z6, tN, tN, tN, tN, tN, tN, tN]
def ph11 : Heap := ⟨7, (.node (some (.row true 1000047 true [(.sl [(.agg [(.str [97]), z6, z6, z6, (i6 5)]), (.agg [(.str [99]), (i6 1), z6, z6, (i6 5)]), (.agg [(.str [101]), (i6 2), z6, z6, (i6 5)]), (.agg [(.str [112]), (i6 3), z6, z6, (i6 5)]), (.agg [(.str [116]), (i6 4), z6, z6, (i6 5)])] .none), nS, nS, nS, nS, nS, nS, nS, nS, (i6 3), (i6 5), (i6 4), (i6 100), nS, (i6 200), z6, z6])) (.node (some (.row true 1000031 true [(.sl [(.agg [z6, (i6 1), (i6 8), (.sl [(.agg [(.str [99, 97, 116]), z6, z6, z6, z6, z6, z6])] .none), nS]), (.agg [z6, (i6 1), (i6 9), (.sl [(.agg [(.str [112, 101, 116]), z6, z6, z6, z6, z6, z6])] .none), nS])] .none), (.ref 5 0 4 14), nS, nS, nS, nS, nS])) (.node (some (.tok 49)) .leaf .leaf) (.node (some (.row true 14 true [z6, (i6 1), (i6 1), z6, (i6 1), (i6 8), (.sl [(.agg [(.str [97, 32, 112, 101, 116]), z6, z6, z6, z6, z6, z6])] .none), (.sl [(.agg [(.str []), (i6 5), z6, z6, z6, z6, z6])] .none), nS, nS, nS, nS, (.sl [(.str [114, 97, 114, 101])] .none), (.sl [(.agg [z6, (i6 1), (i6 4)])] .none), z6, (i6 1), (i6 2), z6, (i6 1), (i6 8), (.sl [(.agg [(.str [97]), z6, z6, z6, z6, z6, z6])] .none), (.sl [(.agg [(.str []), (i6 4), z6, z6, z6, z6, z6])] .none), nS, nS, nS, nS, nS, nS, z6, (i6 1), (i6 3), z6, (i6 1), (i6 1), (.sl [(.agg [(.str [97]), z6, z6, z6, z6, z6, z6])] .none), (.sl [(.agg [(.str []), z6, z6, z6, z6, z6, z6])] .none), nS, nS, nS, nS, nS, nS, z6, (i6 1), (i6 4), z6, (i6 1), (i6 9), (.sl [(.agg [(.str [97, 32, 99, 97, 116]), z6, z6, z6, z6, z6, z6])] .none), (.sl [(.agg [(.str []), z6, z6, z6, z6, z6, z6])] .none), nS, nS, nS, nS, nS, nS])) .leaf .leaf)) (.node (some (.tok 62)) (.node (some (.row true 0 true [nS, nS, (.mp 6)])) .leaf .leaf) (.node (some (.map .str 0 [])) .leaf .leaf)))⟩
def pv12 : List AVal := [(.bool false), .bad, (.ptr 0 0), (.ptr 1 0), (.sl [(.agg [z6, (i6 1), (i6 1)]), (.agg [z6, (i6 1), (i6 2)]), (.agg [z6, (i6 1), (i6 3)])] .none), (.sl [(.agg [z6, (i6 1), (i6 8)])] (.own 2 3)), (.sl [(.sl [(.agg [z6, (i6 1), (i6 2)]), (.agg [z6, (i6 1), (i6 1)]), (.agg [z6, (i6 1), (i6 3)])] .none)] (.own 3 1)), z6, (.bool true), (.bool true), (.ptr 4 0), z6, (.ptr 5 0), tN, tN, tN, tN, tN, tN]
def ph12 : Heap := ⟨8, (.node (some (.row true 1000047 true [(.sl [(.agg [(.str [97]), z6, z6, z6, (i6 5)]), (.agg [(.str [99]), (i6 1), z6, z6, (i6 5)]), (.agg [(.str [101]), (i6 2), z6, z6, (i6 5)]), (.agg [(.str [112]), (i6 3), z6, z6, (i6 5)]), (.agg [(.str [116]), (i6 4), z6, z6, (i6 5)])] .none), nS, nS, nS, nS, nS, nS, nS, nS, (i6 3), (i6 5), (i6 4), (i6 100), nS, (i6 200), z6, z6])) (.node (some (.row true 1000031 true [(.sl [(.agg [z6, (i6 1), (i6 8), (.sl [(.agg [(.str [99, 97, 116]), z6, z6, z6, z6, z6, z6])] .none), nS]), (.agg [z6, (i6 1), (i6 9), (.sl [(.agg [(.str [112, 101, 116]), z6, z6, z6, z6, z6, z6])] .none), nS])] .none), (.ref 6 0 4 14), nS, nS, nS, nS, nS])) (.node (some (.tok 49)) (.node (some (.map .str 0 [])) .leaf .leaf) .leaf) (.node (some (.row true 1000120 true [(.sl [(.agg [z6, (i6 1), (i6 1)]), (.agg [z6, (i6 1), (i6 4)])] .none), nS, nS, nS, nS])) .leaf .leaf)) (.node (some (.tok 62)) (.node (some (.row true 0 true [nS, nS, (.mp 7)])) .leaf .leaf) (.node (some (.row true 14 true [z6, (i6 1), (i6 1), z6, (i6 1), (i6 8), (.sl [(.agg [(.str [97, 32, 112, 101, 116]), z6, z6, z6, z6, z6, z6])] .none), (.sl [(.agg [(.str []), (i6 5), z6, z6, z6, z6, z6])] .none), nS, nS, nS, nS, (.sl [(.str [114, 97, 114, 101])] .none), (.sl [(.agg [z6, (i6 1), (i6 4)])] .none), z6, (i6 1), (i6 2), z6, (i6 1), (i6 8), (.sl [(.agg [(.str [97]), z6, z6, z6, z6, z6, z6])] .none), (.sl [(.agg [(.str []), (i6 4), z6, z6, z6, z6, z6])] .none), nS, nS, nS, nS, nS, nS, z6, (i6 1), (i6 3), z6, (i6 1), (i6 1), (.sl [(.agg [(.str [97]), z6, z6, z6, z6, z6, z6])] .none), (.sl [(.agg [(.str []), z6, z6, z6, z6, z6, z6])] .none), nS, nS, nS, nS, nS, nS, z6, (i6 1), (i6 4), z6, (i6 1), (i6 9), (.sl [(.agg [(.str [97, 32, 99, 97, 116]), z6, z6, z6, z6, z6, z6])] .none), (.sl [(.agg [(.str []), z6, z6, z6, z6, z6, z6])] .none), nS, nS, nS, nS, nS, nS])) .leaf .leaf)))⟩
def pv13 : List AVal := [(.bool false), .bad, (.ptr 0 0), (.ptr 1 0), .bad, (.sl [(.agg [z6, (i6 1), (i6 8)])] (.own 2 3)), (.sl [(.sl [(.agg [z6, (i6 1), (i6 2)]), (.agg [z6, (i6 1), (i6 1)]), (.agg [z6, (i6 1), (i6 3)])] .none)] (.own 3 1)), z6, (.bool true), (.bool true), (.ptr 4 0), z6, (.ptr 5 0), (.ptr 6 0), z6, tN, tN, tN, tN]
def ph13 : Heap := ⟨10, (.node (some (.row true 1000047 true [(.sl [(.agg [(.str [97]), z6, z6, z6, (i6 5)]), (.agg [(.str [99]), (i6 1), z6, z6, (i6 5)]), (.agg [(.str [101]), (i6 2), z6, z6, (i6 5)]), (.agg [(.str [112]), (i6 3), z6, z6, (i6 5)]), (.agg [(.str [116]), (i6 4), z6, z6, (i6 5)])] .none), nS, nS, nS, nS, nS, nS, nS, nS, (i6 3), (i6 5), (i6 4), (i6 100), nS, (i6 200), z6, z6])) (.node (some (.row true 1000031 true [(.sl [(.agg [z6, (i6 1), (i6 8), (.sl [(.agg [(.str [99, 97, 116]), z6, z6, z6, z6, z6, z6])] .none), nS]), (.agg [z6, (i6 1), (i6 9), (.sl [(.agg [(.str [112, 101, 116]), z6, z6, z6, z6, z6, z6])] .none), nS])] .none), (.ref 7 0 4 14), nS, nS, nS, nS, nS])) (.node (some (.tok 49)) (.node (some (.row true 14 true [z6, (i6 1), (i6 1), z6, (i6 1), (i6 8), (.sl [(.agg [(.str [97, 32, 112, 101, 116]), z6, z6, z6, z6, z6, z6])] .none), (.sl [(.agg [(.str []), (i6 5), z6, z6, z6, z6, z6])] .none), nS, nS, nS, nS, (.sl [(.str [114, 97, 114, 101])] .none), (.sl [(.agg [z6, (i6 1), (i6 4)])] .none), z6, (i6 1), (i6 2), z6, (i6 1), (i6 8), (.sl [(.agg [(.str [97]), z6, z6, z6, z6, z6, z6])] .none), (.sl [(.agg [(.str []), (i6 4), z6, z6, z6, z6, z6])] .none), nS, nS, nS, nS, nS, nS, z6, (i6 1), (i6 3), z6, (i6 1), (i6 1), (.sl [(.agg [(.str [97]), z6, z6, z6, z6, z6, z6])] .none), (.sl [(.agg [(.str []), z6, z6, z6, z6, z6, z6])] .none), nS, nS, nS, nS, nS, nS, z6, (i6 1), (i6 4), z6, (i6 1), (i6 9), (.sl [(.agg [(.str [97, 32, 99, 97, 116]), z6, z6, z6, z6, z6, z6])] .none), (.sl [(.agg [(.str []), z6, z6, z6, z6, z6, z6])] .none), nS, nS, nS, nS, nS, nS])) .leaf .leaf) .leaf) (.node (some (.row true 1000120 true [(.sl [(.agg [z6, (i6 1), (i6 1)]), (.agg [z6, (i6 1), (i6 4)])] .none), nS, nS, nS, nS])) (.node (some (.tok 202)) .leaf .leaf) .leaf)) (.node (some (.tok 62)) (.node (some (.row true 0 true [nS, nS, (.mp 8)])) (.node (some (.map .str 0 [])) .leaf .leaf) .leaf) (.node (some (.row true 1000123 true [z6, (i6 1), (i6 8), (.str [99, 97, 116]), (.sl [(.agg [z6, (.str [99, 97, 116]), (i6 15), z6, (.bool true), z6, z6, z6]), (.agg [(i6 1), (.str []), (i6 3), z6, (.bool false), z6, z6, z6]), (.agg [z6, (.str [40, 114, 97, 114, 101, 41]), (i6 26), z6, (.bool false), z6, z6, z6]), (.agg [(i6 1), (.str []), (i6 3), z6, (.bool false), z6, z6, z6]), (.agg [z6, (.str [97]), (i6 5), z6, (.bool false), z6, z6, z6]), (.agg [(i6 1), (.str []), (i6 3), z6, (.bool false), z6, z6, z6]), (.agg [z6, (.str [112, 101, 116]), (i6 15), z6, (.bool false), z6, z6, z6]), (.agg [(i6 1), (.str []), (i6 3), z6, (.bool false), z6, z6, z6]), (.agg [z6, (.str [115, 101, 101]), (i6 14), z6, (.bool false), z6, z6, z6]), (.agg [(i6 1), (.str []), (i6 3), z6, (.bool false), z6, z6, z6]), (.agg [z6, (.str [112, 101, 116]), (i6 15), z6, (.bool false), z6, z6, z6]), (.agg [(i6 1), (.str []), (i6 3), z6, (.bool false), z6, z6, z6]), (.agg [z6, (.str [40, 112, 46]), (i6 13), z6, (.bool false), z6, z6, z6]), (.agg [(i6 1), (.str []), (i6 3), z6, (.bool false), z6, z6, z6]), (.agg [z6, (.str [51]), (i6 5), z6, (.bool false), z6, (i6 1), (i6 9)]), (.agg [z6, (.str [41]), (i6 4), z6, (.bool false), z6, z6, z6]), (.agg [(i6 3), (.str []), z6, z6, (.bool false), z6, z6, z6])] (.own 9 8))])) .leaf .leaf)))⟩
def pv14 : List AVal := [(.bool false), .bad, .bad, .bad, .bad, (.sl [(.agg [z6, (i6 1), (i6 8)])] (.own 0 3)), (.sl [(.sl [(.agg [z6, (i6 1), (i6 2)]), (.agg [z6, (i6 1), (i6 1)]), (.agg [z6, (i6 1), (i6 3)])] .none)] (.own 1 1)), z6, (.bool true), (.bool true), .bad, z6, .bad, (.ptr 2 0), z6, (i6 1), z6, tN, tN]
def ph14 : Heap := ⟨4, (.node (some (.tok 62)) (.node (some (.tok 49)) (.node (some (.tok 202)) .leaf .leaf) .leaf) (.node (some (.row true 1000123 true [z6, (i6 1), (i6 8), (.str [99, 97, 116]), (.sl [(.agg [z6, (.str [99, 97, 116]), (i6 15), z6, (.bool true), z6, z6, z6]), (.agg [(i6 1), (.str []), (i6 3), z6, (.bool false), z6, z6, z6]), (.agg [z6, (.str [40, 114, 97, 114, 101, 41]), (i6 26), z6, (.bool false), z6, z6, z6]), (.agg [(i6 1), (.str []), (i6 3), z6, (.bool false), z6, z6, z6]), (.agg [z6, (.str [97]), (i6 5), z6, (.bool false), z6, z6, z6]), (.agg [(i6 1), (.str []), (i6 3), z6, (.bool false), z6, z6, z6]), (.agg [z6, (.str [112, 101, 116]), (i6 15), z6, (.bool false), z6, z6, z6]), (.agg [(i6 1), (.str []), (i6 3), z6, (.bool false), z6, z6, z6]), (.agg [z6, (.str [115, 101, 101]), (i6 14), z6, (.bool false), z6, z6, z6]), (.agg [(i6 1), (.str []), (i6 3), z6, (.bool false), z6, z6, z6]), (.agg [z6, (.str [112, 101, 116]), (i6 15), z6, (.bool false), z6, z6, z6]), (.agg [(i6 1), (.str []), (i6 3), z6, (.bool false), z6, z6, z6]), (.agg [z6, (.str [40, 112, 46]), (i6 13), z6, (.bool false), z6, z6, z6]), (.agg [(i6 1), (.str []), (i6 3), z6, (.bool false), z6, z6, z6]), (.agg [z6, (.str [51]), (i6 5), z6, (.bool false), z6, (i6 1), (i6 9)]), (.agg [z6, (.str [41]), (i6 4), z6, (.bool false), z6, z6, z6]), (.agg [(i6 3), (.str []), z6, z6, (.bool false), z6, z6, z6])] (.own 3 8))])) .leaf .leaf))⟩
noncomputable def pcB (i : Nat) : ACode := tlN i cV14.body
end Go.Proofs.YthhdkkecolocdaaGreatDoor

namespace Go.Proofs.YthhdkkecolocdaaGreatDoor
open Go Go.Abs
set_option maxRecDepth 1000000
theorem pc_0 : pieceB F3 5000 (hdA (pcB 0)) [] pv0 ph0 pv1 ph1 = true := by kernel_rfl
theorem pc_1 : pieceB F3 5000 (hdA (pcB 1)) [] pv1 ph1 pv2 ph2 = true := by kernel_rfl
theorem pc_2 : pieceB F3 5000 (hdA (pcB 2)) [0] pv2 ph2 pv3 ph3 = true := by kernel_rfl
theorem pc_3 : pieceB F3 5000 (hdA (pcB 3)) [0, 2, 1] pv3 ph3 pv4 ph4 = true := by kernel_rfl
end Go.Proofs.YthhdkkecolocdaaGreatDoor

namespace Go.Proofs.YthhdkkecolocdaaGreatDoor
open Go Go.Abs
set_option maxRecDepth 1000000
theorem pc_4 : pieceB F3 5000 (hdA (pcB 4)) [0, 1, 2] pv4 ph4 pv5 ph5 = true := by kernel_rfl
theorem pc_5 : pieceB F3 5000 (hdA (pcB 5)) [0, 1, 2] pv5 ph5 pv6 ph6 = true := by kernel_rfl
theorem pc_6 : pieceB F3 5000 (hdA (pcB 6)) [0, 1, 2] pv6 ph6 pv7 ph7 = true := by kernel_rfl
theorem pc_7 : pieceB F3 5000 (hdA (pcB 7)) [0, 1, 23, 187, 2] pv7 ph7 pv8 ph8 = true := by kernel_rfl
end Go.Proofs.YthhdkkecolocdaaGreatDoor

namespace Go.Proofs.YthhdkkecolocdaaGreatDoor
open Go Go.Abs
set_option maxRecDepth 1000000
theorem pc_8 : pieceB F3 5000 (hdA (pcB 8)) [0, 1, 2, 3, 4] pv8 ph8 pv9 ph9 = true := by kernel_rfl
theorem pc_9 : pieceB F3 5000 (hdA (pcB 9)) [0, 1, 2, 3, 4] pv9 ph9 pv10 ph10 = true := by kernel_rfl
theorem pc_10 : pieceB F3 5000 (hdA (pcB 10)) [0, 1, 2, 3, 7, 4, 6] pv10 ph10 pv11 ph11 = true := by kernel_rfl
theorem pc_11 : pieceB F3 5000 (hdA (pcB 11)) [0, 1, 2, 3, 4, 7, 5, 6] pv11 ph11 pv12 ph12 = true := by kernel_rfl
end Go.Proofs.YthhdkkecolocdaaGreatDoor

namespace Go.Proofs.YthhdkkecolocdaaGreatDoor
open Go Go.Abs
set_option maxRecDepth 1000000
theorem pc_12_0 : pieceB F3 5000 (.ops ((altsOfA (hdA (pcB 12))).getD 0 [])) [0, 1, 2, 3, 4, 5, 332, 6, 7, 331] pv12 ph12 pv13 ph13 = true := by kernel_rfl
end Go.Proofs.YthhdkkecolocdaaGreatDoor

namespace Go.Proofs.YthhdkkecolocdaaGreatDoor
open Go Go.Abs
set_option maxRecDepth 1000000
theorem pc_12_1 : pieceB F3 5000 (.ops ((altsOfA (hdA (pcB 12))).getD 1 [])) [0, 1, 2, 3, 4, 5, 9, 6, 7, 332] pv12 ph12 pv13 ph13 = true := by kernel_rfl
end Go.Proofs.YthhdkkecolocdaaGreatDoor

namespace Go.Proofs.YthhdkkecolocdaaGreatDoor
open Go Go.Abs
set_option maxRecDepth 1000000
theorem pc_12_2 : pieceB F3 5000 (.ops ((altsOfA (hdA (pcB 12))).getD 2 [])) [0, 1, 2, 3, 4, 5, 9, 6, 7, 332] pv12 ph12 pv13 ph13 = true := by kernel_rfl
end Go.Proofs.YthhdkkecolocdaaGreatDoor

namespace Go.Proofs.YthhdkkecolocdaaGreatDoor
open Go Go.Abs
set_option maxRecDepth 1000000
theorem pc_12_3 : pieceB F3 5000 (.ops ((altsOfA (hdA (pcB 12))).getD 3 [])) [0, 1, 2, 3, 4, 5, 8, 6, 7, 332] pv12 ph12 pv13 ph13 = true := by kernel_rfl
end Go.Proofs.YthhdkkecolocdaaGreatDoor

namespace Go.Proofs.YthhdkkecolocdaaGreatDoor
open Go Go.Abs
set_option maxRecDepth 1000000
theorem pc_13 : pieceB F3 5000 (hdA (pcB 13)) [2, 3, 6, 9] pv13 ph13 pv14 ph14 = true := by kernel_rfl
end Go.Proofs.YthhdkkecolocdaaGreatDoor

namespace Go.Proofs.YthhdkkecolocdaaGreatDoor
open Go Go.Abs
set_option maxRecDepth 1000000
theorem pc_last : lastB F3 5000 (pcB 14) pv14 ph14 cV14.results (.bool true) = true := by kernel_rfl
theorem liv_len : (altsOfA (hdA (pcB 12))).length = 4 := by kernel_rfl
theorem liv_shape : pcShape [false, false, false, false, false, false, false, false, false, false, false, false, true, false] (bodyOf Tryz.prog 14) = true := by kernel_rfl
theorem tlN_succ (n : Nat) : tlA (pcB n) = pcB (n + 1) := by
 unfold pcB
 generalize cV14.body = c
 induction n generalizing c with
 | zero => rfl
 | succ n ih => simp only [tlN] at ih ⊢; exact ih _
theorem liv_alts : altsOfA (hdA (pcB 12)) ≠ [] ∧ ∀ l ∈ altsOfA (hdA (pcB 12)), ∃ L, pieceB F3 5000 (.ops l) L pv12 ph12 pv13 ph13 = true := by
 refine alts_of (Ls := [[0, 1, 2, 3, 4, 5, 332, 6, 7, 331] , [0, 1, 2, 3, 4, 5, 9, 6, 7, 332] , [0, 1, 2, 3, 4, 5, 9, 6, 7, 332] , [0, 1, 2, 3, 4, 5, 8, 6, 7, 332]]) liv_len (by decide) fun k hk => ?_
 match k, hk with
 | 0, _ => exact pc_12_0
 | 1, _ => exact pc_12_1
 | 2, _ => exact pc_12_2
 | 3, _ => exact pc_12_3
 | k + 4, hk => omega
theorem liv_chain : Chain F3 (fun e vs h' => (e = .normal ∨ e = .ret) ∧ ∃ r1, resultsA cV14.results vs h' = some r1 ∧ purify h' r1 = some (.bool true)) [false, false, false, false, false, false, false, false, false, false, false, false, true, false] (pcB 0) pv0 ph0 := by
 refine .step pc_0 ?_
 rw [tlN_succ]
 refine .step pc_1 ?_
 rw [tlN_succ]
 refine .step pc_2 ?_
 rw [tlN_succ]
 refine .step pc_3 ?_
 rw [tlN_succ]
 refine .step pc_4 ?_
 rw [tlN_succ]
 refine .step pc_5 ?_
 rw [tlN_succ]
 refine .step pc_6 ?_
 rw [tlN_succ]
 refine .step pc_7 ?_
 rw [tlN_succ]
 refine .step pc_8 ?_
 rw [tlN_succ]
 refine .step pc_9 ?_
 rw [tlN_succ]
 refine .step pc_10 ?_
 rw [tlN_succ]
 refine .step pc_11 ?_
 rw [tlN_succ]
 refine .alt liv_alts ?_
 rw [tlN_succ]
 refine .step pc_13 ?_
 rw [tlN_succ]
 exact .of_last pc_last
theorem liv_call : CallRelE Tryz.prog hintsV 14 [] Heap.empty (.bool true) Heap.empty :=
 chain_call mixedV table3 cV14_ok liv_shape liv_chain
end Go.Proofs.YthhdkkecolocdaaGreatDoor

namespace Go.Proofs.YthhdkkecolocdaaGreatDoor
open Go Go.Abs Go.Ly
theorem lives_v : PV F 14 [] = some (.bool true) := by
 obtain ⟨r', h1, h2, h3⟩ := told_is (P := Tryz.prog) (Hh := hints) (g := 14) (Spec := Ly.livesSp) (args := []) ⟨rfl, rfl⟩ liv_call
 subst h3
 exact PV_of (gives_hand rfl h1) rfl
theorem brL (x y : AVal) : (bkRow x y).length = 7 := rfl
theorem brA (a b : List AVal) (s t : Abs.Tok) : (bkRow (.sl a s) (.sl b t)).all AVal.one = true := rfl
theorem brT (x y : AVal) : List.take 7 (bkRow x y) = bkRow x y := rfl
theorem br1 (x y : AVal) : List.take 1 (List.drop 1 (bkRow x y)) = [y] := rfl
theorem brS1 (x y z : AVal) : setCells (bkRow x y) 1 [z] = bkRow x z := rfl
theorem br0 (x y : AVal) : setCells [.sl [] .nil, .sl [] .nil, .sl [] .nil, .sl [] .nil, .sl [] .nil, .sl [] .nil, .sl [] .nil] 0 (bkRow x y) = bkRow x y := rfl
theorem br_st (b : Bk) (i j s s' : Nat) : strip (.agg (bkRow (.sl (b.es.map En.val) (.own i s)) (.sl (b.ss.map Sn.val) (.own j s')))) = some b.val := by
 simp only [bkRow, strip, stripL]
 rfl
theorem tree_own {b : Bk} (fit : b.Fit) (he : b.es ≠ []) {h : Heap} {ty1 ty2 s1 s2 : Nat} {t1 t2 : Abs.Tok} (g1 : Gr h ty1 s1 b.es t1) (g2 : Gr h ty2 s2 b.ss t2) : (∃ i, t1 = .own i s1) ∧ ∃ j, t2 = .own j s2 := by
 constructor
 ·rcases g1 with ⟨q, _⟩ | ⟨i, q, _⟩
  ·exact absurd q he
  ·exact ⟨i, q⟩
 ·rcases g2 with ⟨q, _⟩ | ⟨i, q, _⟩
  ·have := fit.ss1
   rw [q] at this
   simp at this
  ·exact ⟨i, q⟩
theorem tree_es (l : List Int) : (treeB l).es ≠ [] := by
 show esOf l 2 ≠ []
 rw [esOf_succ]
 simp
def wideI (i : Nat) : Ly.Id := ⟨5, 1 + ((i / 16 : Nat) : Int), ((i % 16 : Nat) : Int)⟩
def wideS (i : Nat) : Sn := ⟨wideI i, ⟨0, 2, 0⟩, [], false⟩
def wideB (n : Nat) : Bk := ⟨(treeB []).es, (treeB []).ss ++ (List.range n).map wideS⟩
def wideL (n : Nat) : List Ly.Id := ⟨0, 2, 0⟩ :: (List.range n).map wideI
theorem wide_fit : (wideB 30).Fit := by
 refine ⟨⟨?_, fun x hx => ?_⟩, ?_, ?_, ?_, ?_, ?_, ?_, ?_⟩
 ·have : ((wideB 30).ss.all fun s => match (wideB 30).sense s.par with | none => true | some _ => decide ((wideB 30).idx s.par < (wideB 30).idx s.id)) = true := by kernel_rfl
  rw [List.all_eq_true] at this
  intro s hs t ht
  have q := this s hs
  rw [ht] at q
  simpa using q
 ·obtain ⟨s, h⟩ := Option.isSome_iff_exists.1 hx
  obtain ⟨q1, q2⟩ := sense_id h
  have : ((wideB 30).ss.all fun s => ((wideB 30).ent s.id).isNone) = true := by kernel_rfl
  rw [List.all_eq_true] at this
  have q := this s q2
  rw [q1] at q
  simpa using q
 ·decide
 ·decide
 ·decide
 ·decide
 ·have : ((wideB 30).es.all fun e => decide (e.head.length ≤ 10)) = true := by kernel_rfl
  rw [List.all_eq_true] at this
  exact fun e he => by simpa using this e he
 ·have : ((wideB 30).ss.all fun e => decide (e.ord.length ≤ 10)) = true := by kernel_rfl
  rw [List.all_eq_true] at this
  exact fun e he => by simpa using this e he
 ·kernel_rfl
theorem wide_small : Small (wideB 30) (wideL 30) := by
 intro e o
 refine sorted_ok _ ?_ (by decide) e o
 have key : ((List.range 31).all fun j => (List.range j).all fun i => (wideB 30).key (nth (wideL 30) i) (nth (wideL 30) j)) = true := by kernel_rfl
 rw [List.pairwise_iff_getElem]
 intro i j hi hj hij
 have hl : (wideL 30).length = 31 := rfl
 have q := all_lt key (by omega : j < 31)
 have q2 := all_lt q hij
 rwa [nth_eq hi, nth_eq hj] at q2
theorem wideB_succ (n : Nat) : (wideB n).ss ++ [wideS n] = (wideB (n + 1)).ss := by simp [wideB, List.range_succ]
theorem wideL_succ (n : Nat) : wideL n ++ [wideI n] = wideL (n + 1) := by simp [wideL, List.range_succ]
theorem wideB_len (n : Nat) : (wideB n).ss.length = 1 + n := by
 show ((treeB []).ss ++ _).length = _
 rw [List.length_append]
 simp
 rfl
theorem wideL_len (n : Nat) : (wideL n).length = 1 + n := by simp [wideL]; omega
theorem numb_none {b : Bk} {L : List Ly.Id} {x : Ly.Id} (h : b.sense x = none) : Bk.numb b L x = [] := by
 unfold Bk.numb
 cases hy : b.entry x with
 | none => rfl
 | some y => have := entry_sense hy; rw [h] at this; simp at this
theorem tree_out (l : List Int) : (treeB l).sense ⟨4, 4, 4⟩ = none := sense_none fun s hs q => by
 obtain ⟨i, hi, rfl⟩ := ss_mem hs
 have : idN i = ⟨4, 4, 4⟩ := q
 simp [idN] at this
 omega
theorem numbers_run {l m : List Int} {t u : Abs.Tok} {many none : Int} (ht : Pt t) (hu : Pt u) (hl : ∀ x ∈ l, i64 x) (hm : ∀ x ∈ m, i64 x) (h1 : i64 many) (h2 : i64 none) : CV F 4 [.sl (l.map (.int .i64)) t, .sl (m.map (.int .i64)) u, .int .i64 many, .int .i64 none] Heap.empty (fun v _ => v = .bool true) := by
 refine CV_wp (fn := c4) rfl ?_
 simp only [uT, c4]
 have stu := strip_pt hu (xs := m.map (.int .i64))
 replace fx := Dum_eq
 first | refine go ?_ | exact goC
 refine CV_mono (tree_c ht hl _) ?_
 rintro v H1 ⟨t1, t2, rfl, g1, g2, f1⟩
 have fit := tree_fit l
 have sm := tree_small l
 have hx := tree_out l
 obtain ⟨⟨i1, rfl⟩, i2, rfl⟩ := tree_own fit (tree_es l) g1 g2
 generalize treeB l = b at fit sm g1 g2 hx ⊢
 have hb2 := fit.ss
 have a1 := around_v (n := many) (m := 14) h1 (by omega)
 have a2 := around_v (n := none) (m := 5) h2 (by omega)
 have a3 := around_v (n := many) (m := 30) h1 (by omega)
 have c1 := around_bound many (m := 14) (by omega)
 have c3 := around_bound many (m := 30) (by omega)
 have sv := some_v b fit (t := u) hm (aroundS many 14) (aroundS none 5) (by omega) (by omega)
 have sl := someL_len b m (many := aroundS many 14) (aroundS none 5) (by omega)
 generalize someL b m (aroundS many 14) (aroundS none 5) = L at sv sl
 have stL := strip_pt (tk_pt L) (xs := L.map Ly.Id.val)
 replace fx := aI @brL (aI @brA (aI @brT (aI @br0 (aI @br_st (aI @a1 (aI @a2 (aI @sv @stu)))))))
 first | refine go ?_ | exact goC
 have gb : (H1.push (.row true (typed 31) true (bkRow (.sl (b.es.map En.val) (.own i1 5)) (.sl (b.ss.map Sn.val) (.own i2 14))))).get H1.next = some (.row true (typed 31) true (bkRow (.sl (b.es.map En.val) (.own i1 5)) (.sl (b.ss.map Sn.val) (.own i2 14)))) := get_push_eq rfl
 have hp5 : H1.next < (H1.push (.row true (typed 31) true (bkRow (.sl (b.es.map En.val) (.own i1 5)) (.sl (b.ss.map Sn.val) (.own i2 14))))).next := by rw [push_next]; omega
 generalize H1.push (.row true (typed 31) true (bkRow (.sl (b.es.map En.val) (.own i1 5)) (.sl (b.ss.map Sn.val) (.own i2 14)))) = Hc at gb hp5 ⊢
 generalize H1.next = p5 at gb hp5 ⊢
 refine w_loop (fun k vs H => ∃ (i : Nat) (x1 x2 x3 x4 x5 x6 x7 x8 x9 x10 : AVal), k = b.ss.length - i ∧ i ≤ b.ss.length ∧ H = Hc ∧ vs = [.sl (l.map (.int .i64)) t, .sl (m.map (.int .i64)) u, .int .i64 many, .int .i64 none, .bool false, .ptr p5 0, .sl (L.map Ly.Id.val) (tk L), .int .i64 (i : Int), x1, x2, x3, x4, x5, x6, x7, x8, x9, x10]) b.ss.length
  ⟨0, _, _, _, _, _, _, _, _, _, _, rfl, by omega, rfl, rfl⟩ ?_
 rintro k vs H ⟨i, x1, x2, x3, x4, x5, x6, x7, x8, x9, x10, rfl, hi, rfl, rfl⟩
 by_cases hi2 : i < b.ss.length
 ·obtain ⟨s, hs⟩ : ∃ s, nth b.ss i = s := ⟨_, rfl⟩
  have n1 := number_v b fit L (by omega) (sm L) (tk_pt L) s.id
  have n2 := rnumber_v b fit L (by omega) (tk_pt L) s.id
  replace fx := aI @gb (aI @brL (aI @brA (aI @brT (aI @br1 (aI @br_st (aI @stL (aI @hs (aI @n1 (aI @n2 (aI @snId (aI @snVL (aI @snL (aI @id_agg @st_id)))))))))))))
  (first | refine go ?_ | exact goC); repeat' (first | refine gP ?_ | exact gPc)
  exact lp_n ⟨_, by omega, i + 1, _, _, _, _, _, _, _, _, _, _, rfl, by omega, rfl, by push_cast; rfl⟩
 ·replace fx := aI @gb (aI @brL (aI @brA (aI @brT @br1)))
  (first | refine go ?_ | exact goC); repeat' (first | refine gN ?_ | exact gNc)
  refine CV_mono (tree_c (l := []) (t := .nil) (.inr rfl) (by simp) _) ?_
  rintro v H2 ⟨t3, t4, rfl, g3, g4, f2⟩
  obtain ⟨⟨i3, rfl⟩, i4, rfl⟩ := tree_own (tree_fit []) (tree_es []) g3 g4
  have gb2 := f2.get (get_push_old gb) (fun q => q)
  have g8 := f2.get (get_push_eq (h := H) rfl) (fun q => q)
  have hn2 := f2.1
  rw [push_next] at hn2
  have w0 : (treeB []).ss = (wideB 0).ss := by simp [wideB]
  have w1 : (treeB []).es = (wideB 0).es := rfl
  rw [w0] at g4 ⊢
  have tr0 : (nth (wideB 0).ss 0).id.cells = [.int .i64 0, .int .i64 2, .int .i64 0] := rfl
  have tl0 : (wideB 0).ss.length = 1 := rfl
  have lo : ∀ H, litA 1 62 1 3 true [.int .i64 0, .int .i64 0, .int .i64 0] (some [.int .i64 0, .int .i64 2, .int .i64 0]) H = some (.sl ((wideL 0).map Ly.Id.val) (.own H.next 3), H.push (.tok 62)) := fun H => lit_own rfl rfl rfl rfl
  replace fx := aI @brL (aI @brA (aI @brT (aI @br0 (aI @br1 (aI @snId (aI @snVL (aI @snL (aI @tr0 (aI @tl0 @lo)))))))))
  first | refine go ?_ | exact goC
  generalize hp8 : H.next = p8 at gb2 g8 hp5 hn2 ⊢
  generalize hp9 : H2.next = p9 at gb2 g8 hn2 ⊢
  refine w_loop (fun k vs H' => ∃ (i : Nat) (t4 t5 : Abs.Tok) (x1 x2 x3 x4 x5 x6 : AVal), k = 30 - i ∧ i ≤ 30 ∧ GrF (fun _ => False) Heap.empty H' 67 14 (wideB i).ss t4 ∧ GrF (fun _ => False) Heap.empty H' 62 3 (wideL i) t5 ∧ p9 + 2 ≤ H'.next ∧
    H'.get p5 = some (.row true (typed 31) true (bkRow (.sl (b.es.map En.val) (.own i1 5)) (.sl (b.ss.map Sn.val) (.own i2 14)))) ∧ H'.get p8 = some (.row true (typed 62) true [.int .i64 4, .int .i64 4, .int .i64 4]) ∧
    H'.get p9 = some (.row true (typed 31) true (bkRow (.sl ((treeB []).es.map En.val) (.own i3 5)) (.sl ((wideB i).ss.map Sn.val) t4))) ∧ H'.get (p9 + 1) = some (.row true (typed 62) true [.int .i64 0, .int .i64 2, .int .i64 0]) ∧
    vs = [.sl (l.map (.int .i64)) t, .sl (m.map (.int .i64)) u, .int .i64 many, .int .i64 none, .bool false, .ptr p5 0, .sl (L.map Ly.Id.val) (tk L), x1, .ptr p8 0, .ptr p9 0, .ptr (p9 + 1) 0, .sl ((wideL i).map Ly.Id.val) t5, .int .i64 (i : Int), x2, x3, x4, x5, x6]) 30
   ⟨0, .own i4 14, .own (p9 + 1 + 1) 3, _, _, _, _, _, _, rfl, by omega, ?_, ?_, ?_, ?_, ?_, ?_, ?_, rfl⟩ ?_
  ·exact (Gr.toF (Gr.fr g4 ((((Fr.refl (fun _ => False) _).push _).push _).push _) (fun _ _ _ q => q)))
  ·exact Gr.toF (.inr ⟨_, rfl, get_push_eq (by simp only [push_next]; omega)⟩)
  ·simp only [push_next]; omega
  ·exact get_push_old (get_push_old (get_push_old gb2))
  ·exact get_push_old (get_push_old (get_push_old g8))
  ·rw [get_push_ne (by simp only [push_next]; omega), get_push_ne (by simp only [push_next]; omega)]; exact get_push_eq (by omega)
  ·rw [get_push_ne (by simp only [push_next]; omega)]; exact get_push_eq (by simp only [push_next]; omega)
  clear gb2 g8 g4
  rintro k vs H' ⟨i, t4, t5, x1, x2, x3, x4, x5, x6, rfl, hi, gs, gl, hnx, gb2, g8, g9, g10, rfl⟩
  by_cases hi3 : i < 30
  ·have e1 : Int.tdiv (i : Int) 16 = ((i / 16 : Nat) : Int) := rfl
   have e2 : Int.tmod (i : Int) 16 = ((i % 16 : Nat) : Int) := rfl
   replace fx := aI @g9 (aI @g10 (aI @brL (aI @brA (aI @brT (aI @br1 (aI @e1 @e2))))))
   (first | refine go ?_ | exact goC); repeat' (first | refine gP ?_ | exact gPc)
   refine append_F (f := Sn.val) (S := fun _ => False) (h0 := Heap.empty) (wideB i).ss [wideS i] snLen snMk snSt rfl rfl (gs.step ((Fr.refl _ _).push _)) (by rw [wideB_len]; simp; omega) (by omega) (by omega) (by omega) fun H5 t6 gs5 hn5 keep5 oth5 => ?_
   rw [push_next] at hn5
   have k5 := keep5 _ _ _ _ _ (get_push_old gb2)
   have k8 := keep5 _ _ _ _ _ (get_push_old g8)
   have k9 := keep5 _ _ _ _ _ (get_push_old g9)
   have k10 := keep5 _ _ _ _ _ (get_push_old g10)
   have k13 := keep5 _ _ _ _ _ (get_push_eq (h := H') rfl)
   have gl5 := GrF.other (gl.step ((Fr.refl (fun _ => False) H').push (.row true (typed 62) true [.int .i64 5, .int .i64 (1 + ((i / 16 : Nat) : Int)), .int .i64 ((i % 16 : Nat) : Int)]))) (gs.step ((Fr.refl (fun _ => False) H').push _)).gr (by decide) gs5.fr (by rw [push_next]; exact hn5) oth5
   rw [wideB_succ] at gs5 ⊢
   replace fx := aI @k9 (aI @k13 (aI @brL (aI @brA (aI @brT (aI @br1 @brS1)))))
   first | refine go ?_ | exact goC
   refine append_F (f := Ly.Id.val) (S := fun _ => False) (h0 := Heap.empty) (wideL i) [wideI i] (fun _ => rfl) (fun _ => rfl) (fun _ => rfl) rfl rfl (GrF.put gl5 k9 (Nat.zero_le _) _) (by rw [wideL_len]; simp; omega) (by omega) (by omega) (by omega) fun H6 t7 gl6 hn6 keep6 oth6 => ?_
   rw [wideL_succ] at gl6 ⊢
   rw [put_next] at hn6
   have gs6 := GrF.other (GrF.put gs5 k9 (Nat.zero_le _) _) (GrF.put gl5 k9 (Nat.zero_le _) _).gr (by decide) gl6.fr (by rw [put_next]; exact hn6) oth6
   have m5 := keep6 _ _ _ _ _ ((get_put_ne (by omega)).trans k5)
   have m8 := keep6 _ _ _ _ _ ((get_put_ne (by omega)).trans k8)
   have m9 := keep6 _ _ _ _ _ (get_put_old k9)
   have m10 := keep6 _ _ _ _ _ ((get_put_ne (by omega)).trans k10)
   replace fx := Dum_eq
   first | refine go ?_ | exact goC
   exact lp_n ⟨_, by omega, i + 1, t6, t7, _, _, _, _, _, _, rfl, by omega, gs6, gl6, by omega, m5, m8, m9, m10, by push_cast; rfl⟩
  ·have hi4 : i = 30 := by omega
   subst hi4
   obtain ⟨j4, rfl⟩ : ∃ j, t4 = .own j 14 := by
    rcases gs.gr with ⟨q, _⟩ | ⟨j, q, _⟩
    ·simp [wideB] at q
    ·exact ⟨j, q⟩
   obtain ⟨j5, rfl⟩ : ∃ j, t5 = .own j 3 := by
    rcases gl.gr with ⟨q, _⟩ | ⟨j, q, _⟩
    ·simp [wideL] at q
    ·exact ⟨j, q⟩
   have n1 : PV F 15 [b.val, .sl (L.map Ly.Id.val) (tk L), .agg [.int .i64 4, .int .i64 4, .int .i64 4]] = some (.str []) := by
    have := number_v b fit L (by omega) (sm L) (tk_pt L) ⟨4, 4, 4⟩
    rw [numb_none hx] at this
    exact this
   have wl := wideL_len 30
   have sw : strip (.agg (bkRow (.sl ((treeB []).es.map En.val) (.own i3 5)) (.sl ((wideB 30).ss.map Sn.val) (.own j4 14)))) = some (wideB 30).val := br_st (wideB 30) i3 j4 5 14
   obtain ⟨x, hxx⟩ : ∃ x, nth (wideL 30) (1 + aroundS many 30).toNat = x := ⟨_, rfl⟩
   have n2 := number_v (wideB 30) wide_fit (wideL 30) (by omega) wide_small (t := .none) (.inl rfl) x
   have n3 := rnumber_v (wideB 30) wide_fit (wideL 30) (by omega) (t := .none) (.inl rfl) x
   replace fx := aI @gb2 (aI @g8 (aI @g9 (aI @brL (aI @brA (aI @brT (aI @br_st (aI @sw (aI @stL (aI @n1 (aI @n2 (aI @n3 (aI @a3 (aI @hxx (aI @lives_v (aI @idVL (aI @idL (aI @idA (aI @idT (aI @id_agg (aI @idS0 @st_id))))))))))))))))))))
   (first | refine go ?_ | exact goC); repeat' (first | refine gN ?_ | exact gNc)
   skip
end Go.Proofs.YthhdkkecolocdaaGreatDoor

namespace Go.Proofs.YthhdkkecolocdaaGreatDoor
open Go Go.Abs Go.Ly
theorem numbers_go {l m : List Int} {t u : Abs.Tok} {many none : Int} (v0 : ArgL l t) (v1 : ArgL m u) (h1 : i64 many) (h2 : i64 none) : CV F 4 [.sl (l.map (.int .i64)) t, .sl (m.map (.int .i64)) u, .int .i64 many, .int .i64 none] Heap.empty (fun v _ => v = .bool true) := numbers_run v0.pt v1.pt v0.ok v1.ok h1 h2
end Go.Proofs.YthhdkkecolocdaaGreatDoor
