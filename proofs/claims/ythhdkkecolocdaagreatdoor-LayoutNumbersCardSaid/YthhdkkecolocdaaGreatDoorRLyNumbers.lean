/-
 For all arguments the statement LayoutNumbers answers true and leaves what it was given as it was, the listed variables being what the program's text lays; and its card.
-/
import Derived.Test.YthhdkkecolocdaaGreatDoorM08
import Derived.Test.YthhdkkecolocdaaGreatDoorTie
import Derived.Test.YthhdkkecolocdaaGreatDoorCards
set_option linter.unusedVariables false
namespace Go.Proofs.YthhdkkecolocdaaGreatDoor
open Go Go.Abs Go.ChangeShapes Go.WideShapes Go.ChangeAt Go.RowKit

attribute [local irreducible] okA

theorem layoutNumbers_args (xs : List AVal) (h : ShArgs Tryz.prog 5 [22, 22, 3, 3] xs) : ∃ h', Gives F 4 xs Heap.empty (.bool true) h' := by
 obtain _ | ⟨a0, b0, h⟩ := h
 obtain _ | ⟨a1, b1, h⟩ := h
 obtain _ | ⟨a2, b2, h⟩ := h
 obtain _ | ⟨a3, b3, h⟩ := h
 obtain _ | _ := h
 obtain ⟨l0, tk0, rfl, v0⟩ := argL (n := 3) a0 b0
 obtain ⟨l1, tk1, rfl, v1⟩ := argL (n := 3) a1 b1
 obtain ⟨z2, rfl, w2⟩ := argI (n := 4) a2 b2
 obtain ⟨z3, rfl, w3⟩ := argI (n := 4) a3 b3
 obtain ⟨r, h', c, rfl⟩ := numbers_go v0 v1 w2 w3
 exact ⟨h', c⟩

set_option maxRecDepth 100000 in
theorem layoutNumbers_lifted (os : Os) (started : os.Started) (H : Type) (enc : TypeId × Value → H) :
  ReturnsInHanded {} Tryz.checked os 4 .any (fun w args => (Rows.layoutNumbersSpec.pre enc Tryz.prog Tryz.f4 [] false w args ∧ laidMetH Tryz.prog laidK w) ∧ sizedMet enc Tryz.prog Tryz.f4 (OpenSpec.ofChange Rows.layoutNumbersSpec) false w args)
   (Rows.layoutNumbersSpec.post enc Tryz.prog Tryz.f4 false true false false) := by
 refine returnsInHanded_of_change_and (C := Tryz.checked) (X := fun w _ => laidMetH Tryz.prog laidK w) (fun _ _ _ hh h => h.of_heap hh) own started (by kernel_rfl) Tryz.func4
  (ChangeSpec.witness_shaped (enc := enc) (C := Tryz.checked) (os := os) (X := fun w _ => laidMetH Tryz.prog laidK w) false (World.laidAll Tryz.prog os laidK) #[.slice none 0 0, .slice none 0 0, .int .i64 0, .int .i64 0] 8 (World.laidAll_os _ _ _) (World.shaped_of_ZipB (by kernel_rfl) (by kernel_rfl)) (by kernel_rfl) (by kernel_rfl) (by kernel_rfl) (door_met os _)) ?_
 intro W base args ds gs before hval hW _ _ hL _
 refine row_calls (globs hL) (P := Tryz.prog) (n := 5) (ts := [22, 22, 3, 3]) (tb := 4) mixed table laidOut (congrArg Array.toList Tryz.params4) (fun t ht => ?_) (fun t ht => ?_) rfl Tryz.underlying4 rfl (fun H ds hl => ?_) layoutNumbers_args base args ds gs before hval hW
 ·simp only [List.mem_cons, List.not_mem_nil, or_false] at ht
  rcases ht with rfl | rfl | rfl | rfl
  ·exact ⟨by kernel_rfl, of_decide_eq_true (by kernel_rfl)⟩
  ·exact ⟨by kernel_rfl, of_decide_eq_true (by kernel_rfl)⟩
  ·exact ⟨by kernel_rfl, of_decide_eq_true (by kernel_rfl)⟩
  ·exact ⟨by kernel_rfl, of_decide_eq_true (by kernel_rfl)⟩
 ·simp only [List.mem_cons, List.not_mem_nil, or_false] at ht
  rcases ht with rfl | rfl | rfl | rfl
  ·kernel_rfl
  ·kernel_rfl
  ·kernel_rfl
  ·kernel_rfl
 ·match ds, hl with
  | [d0, d1, d2, d3], _ => rfl

set_option maxHeartbeats 40000000 in
theorem layoutNumbers_closed : joinedFacts Tryz.prog 4 Tryz.f4 Rows.layoutNumbersSpec Rows.layoutNumbersRow = true := by
 unfold joinedFacts
 simp only [Bool.and_eq_true]
 repeat' apply And.intro
 all_goals (as_aux_lemma => kernel_rfl)
theorem layoutNumbersRow_holds : Rows.LayoutNumbersSaid :=
 OpenClaim.holds_of_wide 4 Tryz.f4 rfl rfl rfl rfl rfl rfl rfl ⟨rfl, rfl, rfl, rfl, rfl⟩ rfl rfl rfl rfl rfl (by kernel_rfl) Tryz.func4 layoutNumbers_closed
  (of_decide_eq_true (by kernel_rfl)) (by unfold Func.isWrapper; first | (rw [if_pos (by decide +kernel)]; kernel_rfl) | (rw [if_neg (by decide +kernel)]; exact ⟨rfl, rfl⟩))
  (fun os started H enc _ => layoutNumbers_lifted os started H enc)

theorem layoutNumbers : Rows.LayoutNumbersCardSaid :=
 Claim7.holds_tied_plain_at .later [] [.data, .data, .data, .data, .data, .pinned] true (true, "a3d2ad99b785762e60b66c1307177826c7e79e6d391ab40b40b0050fe412dec7") false
  layoutNumbersRow_holds (fun _ h => by cases h) (by kernel_rfl) (fun _ h => by cases h) layoutNumbers_row_tie rfl ⟨rfl, rfl⟩ (by kernel_rfl) rfl
  (fun f fn hf hfn => by
   obtain rfl : f = 4 := Option.some.inj ((show Tryz.prog.funcNamed "wordbook/wordbooklaw33.LayoutNumbers" = some 4 by kernel_rfl).symm.trans hf) |>.symm
   obtain rfl : fn = Tryz.f4 := (Option.some.inj (Tryz.func4.symm.trans hfn)).symm
   exact ⟨by kernel_rfl, fun j t ht => by
    rw [Tryz.params4] at ht
    have h3 : t ∈ [22, 22, 3, 3] := by
     have := Array.mem_of_getElem? ht
     simpa using this
    exact (show ∀ t ∈ [22, 22, 3, 3], Tryz.prog.wantsStandIn t = false by
     intro t ht
     simp only [List.mem_cons, List.not_mem_nil, or_false] at ht
     rcases ht with rfl | rfl | rfl | rfl
     ·kernel_rfl
     ·kernel_rfl
     ·kernel_rfl
     ·kernel_rfl) t h3⟩)
  (by kernel_rfl)
end Go.Proofs.YthhdkkecolocdaaGreatDoor

