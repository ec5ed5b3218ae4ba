/-
  For all arguments the statement JournalGoesOn answers true and leaves what it was given as it was, the table of constants being what the program's text lays; and its card.
-/
import Derived.Test.YtjofjgflcogklaaDoorM06
import Derived.Test.YtjofjgflcogklaaDoorTie
import Derived.Test.YtjofjgflcogklaaDoorCards
set_option linter.unusedVariables false
namespace Go.Proofs.YtjofjgflcogklaaDoor
open Go Go.Abs Go.ChangeShapes Go.WideShapes Go.ChangeAt Go.RowKit

attribute [local irreducible] okA

theorem journalGoesOn_args (xs : List AVal) (h : ShArgs Tryd.prog 5 [3, 35, 36] xs) : ∃ h', Gives F 4 xs Heap.empty (.bool true) h' := by
  obtain _ | ⟨a0, b0, h⟩ := h
  obtain _ | ⟨a1, b1, h⟩ := h
  obtain _ | ⟨a2, b2, h⟩ := h
  obtain _ | _ := h
  obtain ⟨z0, rfl, w0⟩ := argI (n := 4) a0 b0
  obtain ⟨l1, tk1, rfl, u1, w1⟩ := argP (n := 1) a1 b1
  obtain ⟨l2, tk2, rfl, v2⟩ := argB (n := 3) a2 b2
  obtain ⟨r, h', c, rfl⟩ := goesOn_c _ w0 _ _ _ _ u1 w1 v2
  exact ⟨h', c⟩

set_option maxRecDepth 100000 in
theorem journalGoesOn_lifted (os : Os) (started : os.Started) (H : Type) (enc : TypeId × Value → H) :
    ReturnsInHanded {} Tryd.checked os 4 .any (fun w args => (Rows.journalGoesOnSpec.pre enc Tryd.prog Tryd.f4 [] false w args ∧ laidMetH Tryd.prog laidK w) ∧ sizedMet enc Tryd.prog Tryd.f4 (OpenSpec.ofChange Rows.journalGoesOnSpec) false w args)
      (Rows.journalGoesOnSpec.post enc Tryd.prog Tryd.f4 false true false false) := by
  refine returnsInHanded_of_change_and (C := Tryd.checked) (X := fun w _ => laidMetH Tryd.prog laidK w) (fun _ _ _ hh h => h.of_heap hh) own started (by kernel_rfl) Tryd.func4
    (ChangeSpec.witness_shaped (enc := enc) (C := Tryd.checked) (os := os) (X := fun w _ => laidMetH Tryd.prog laidK w) false (World.doorLaid Tryd.prog 2000 os) #[.int .i64 0, .slice none 0 0, .slice none 0 0] 8 rfl (World.shaped_of_RefB (by kernel_rfl) (by kernel_rfl)) (by kernel_rfl) (by kernel_rfl) (by kernel_rfl) (door_met os _)) ?_
  intro W base args ds gs before hval hW _ _ hL _
  refine row_calls (globs hL) (P := Tryd.prog) (n := 5) (ts := [3, 35, 36]) (tb := 4) mixed table laidOut (congrArg Array.toList Tryd.params4) (fun t ht => ?_) (fun t ht => ?_) rfl Tryd.underlying4 rfl (fun H ds hl => ?_) journalGoesOn_args base args ds gs before hval hW
  · simp only [List.mem_cons, List.not_mem_nil, or_false] at ht
    rcases ht with rfl | rfl | rfl
    · exact ⟨by kernel_rfl, of_decide_eq_true (by kernel_rfl)⟩
    · exact ⟨by kernel_rfl, of_decide_eq_true (by kernel_rfl)⟩
    · exact ⟨by kernel_rfl, of_decide_eq_true (by kernel_rfl)⟩
  · simp only [List.mem_cons, List.not_mem_nil, or_false] at ht
    rcases ht with rfl | rfl | rfl
    · kernel_rfl
    · kernel_rfl
    · kernel_rfl
  · match ds, hl with
    | [d0, d1, d2], _ => rfl

theorem journalGoesOnRow_holds : Rows.JournalGoesOnSaid :=
  OpenClaim.holds_of_wide 4 Tryd.f4 rfl rfl rfl rfl rfl rfl rfl ⟨rfl, rfl, rfl, rfl, rfl⟩ rfl rfl rfl rfl rfl (by kernel_rfl) Tryd.func4 (by kernel_rfl)
    (of_decide_eq_true (by kernel_rfl)) (by unfold Func.isWrapper; first | (rw [if_pos (by decide +kernel)]; kernel_rfl) | (rw [if_neg (by decide +kernel)]; exact ⟨rfl, rfl⟩))
    (fun os started H enc _ => journalGoesOn_lifted os started H enc)

theorem journalGoesOn : Rows.JournalGoesOnCardSaid :=
  Claim7.holds_tied_plain_at .later [] [.data] true (true, "89ee6c31c3a1a00b4fa7c110b94d20589e5410ac2af746354883a772673b456d") false
    journalGoesOnRow_holds (fun _ h => by cases h) (by kernel_rfl) (fun _ h => by cases h) journalGoesOn_row_tie rfl ⟨rfl, rfl⟩ (by kernel_rfl) rfl
    (fun f fn hf hfn => by
      obtain rfl : f = 4 := Option.some.inj ((show Tryd.prog.funcNamed "wordbook/wordbooklaw39.JournalGoesOn" = some 4 by kernel_rfl).symm.trans hf) |>.symm
      obtain rfl : fn = Tryd.f4 := (Option.some.inj (Tryd.func4.symm.trans hfn)).symm
      exact ⟨by kernel_rfl, fun j t ht => by
        rw [Tryd.params4] at ht
        have h3 : t ∈ [3, 35, 36] := by
          have := Array.mem_of_getElem? ht
          simpa using this
        exact (show ∀ t ∈ [3, 35, 36], Tryd.prog.wantsStandIn t = false by
          intro t ht
          simp only [List.mem_cons, List.not_mem_nil, or_false] at ht
          rcases ht with rfl | rfl | rfl
          · kernel_rfl
          · kernel_rfl
          · kernel_rfl) t h3⟩)
    (by kernel_rfl)
end Go.Proofs.YtjofjgflcogklaaDoor
