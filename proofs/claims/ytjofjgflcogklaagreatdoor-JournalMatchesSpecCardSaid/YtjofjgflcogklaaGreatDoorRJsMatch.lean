/-
  For all arguments the statement JournalMatchesSpec answers true and leaves what it was given as it was, the two tables of constants being what the program's text lays; and its card.
-/
import Derived.Test.YtjofjgflcogklaaGreatDoorM06
import Derived.Test.YtjofjgflcogklaaGreatDoorM07
import Derived.Test.YtjofjgflcogklaaGreatDoorTie
import Derived.Test.YtjofjgflcogklaaGreatDoorCards
set_option linter.unusedVariables false
namespace Go.Proofs.YtjofjgflcogklaaGreatDoor
open Go Go.Abs Go.ChangeShapes Go.WideShapes Go.ChangeAt Go.RowKit

attribute [local irreducible] okA

theorem journalMatchesSpec_args (xs : List AVal) (h : ShArgs Tryz.prog 5 [3, 40] xs) : ∃ h', Gives F 6 xs Heap.empty (.bool true) h' := by
  obtain _ | ⟨a0, b0, h⟩ := h
  obtain _ | ⟨a1, b1, h⟩ := h
  obtain _ | _ := h
  obtain ⟨z0, rfl, w0⟩ := argI (n := 4) a0 b0
  obtain ⟨l1, tk1, rfl, u1, w1⟩ := argP (n := 1) a1 b1
  obtain ⟨r, h', c, rfl⟩ := matchesJ_c w0 u1 w1
  exact ⟨h', c⟩

set_option maxRecDepth 100000 in
theorem journalMatchesSpec_lifted (os : Os) (started : os.Started) (H : Type) (enc : TypeId × Value → H) :
    ReturnsInHanded {} Tryz.checked os 6 .any (fun w args => (Rows.journalMatchesSpecSpec.pre enc Tryz.prog Tryz.f6 [] false w args ∧ laidMetH Tryz.prog laidK w) ∧ sizedMet enc Tryz.prog Tryz.f6 (OpenSpec.ofChange Rows.journalMatchesSpecSpec) false w args)
      (Rows.journalMatchesSpecSpec.post enc Tryz.prog Tryz.f6 false true false false) := by
  refine returnsInHanded_of_change_and (C := Tryz.checked) (X := fun w _ => laidMetH Tryz.prog laidK w) (fun _ _ _ hh h => h.of_heap hh) own started (by kernel_rfl) Tryz.func6
    (ChangeSpec.witness_shaped (enc := enc) (C := Tryz.checked) (os := os) (X := fun w _ => laidMetH Tryz.prog laidK w) false (World.doorLaid Tryz.prog 2000 os) #[.int .i64 0, .slice none 0 0] 8 rfl (World.shaped_of_RefB (by kernel_rfl) (by kernel_rfl)) (by kernel_rfl) (by kernel_rfl) (by kernel_rfl) (door_met os _)) ?_
  intro W base args ds gs before hval hW _ _ hL _
  refine row_calls (globs hL) (P := Tryz.prog) (n := 5) (ts := [3, 40]) (tb := 4) mixed table laidOut (congrArg Array.toList Tryz.params6) (fun t ht => ?_) (fun t ht => ?_) rfl Tryz.underlying4 rfl (fun H ds hl => ?_) journalMatchesSpec_args base args ds gs before hval hW
  · simp only [List.mem_cons, List.not_mem_nil, or_false] at ht
    rcases ht with rfl | rfl
    · exact ⟨by kernel_rfl, of_decide_eq_true (by kernel_rfl)⟩
    · exact ⟨by kernel_rfl, of_decide_eq_true (by kernel_rfl)⟩
  · simp only [List.mem_cons, List.not_mem_nil, or_false] at ht
    rcases ht with rfl | rfl
    · kernel_rfl
    · kernel_rfl
  · match ds, hl with
    | [d0, d1], _ => rfl

theorem journalMatchesSpecRow_holds : Rows.JournalMatchesSpecSaid :=
  OpenClaim.holds_of_wide 6 Tryz.f6 rfl rfl rfl rfl rfl rfl rfl ⟨rfl, rfl, rfl, rfl, rfl⟩ rfl rfl rfl rfl rfl (by kernel_rfl) Tryz.func6 (by kernel_rfl)
    (of_decide_eq_true (by kernel_rfl)) (by unfold Func.isWrapper; first | (rw [if_pos (by decide +kernel)]; kernel_rfl) | (rw [if_neg (by decide +kernel)]; exact ⟨rfl, rfl⟩))
    (fun os started H enc _ => journalMatchesSpec_lifted os started H enc)

theorem journalMatchesSpec : Rows.JournalMatchesSpecCardSaid :=
  Claim7.holds_tied_plain_at .later [] [.data, .data] true (true, "10f3d6b8ba93c125f2a9c82f95533d9afc8ae057f8dfbff65b0c40b7dae2976c") false
    journalMatchesSpecRow_holds (fun _ h => by cases h) (by kernel_rfl) (fun _ h => by cases h) journalMatchesSpec_row_tie rfl ⟨rfl, rfl⟩ (by kernel_rfl) rfl
    (fun f fn hf hfn => by
      obtain rfl : f = 6 := Option.some.inj ((show Tryz.prog.funcNamed "wordbook/wordbooklaw39.JournalMatchesSpec" = some 6 by kernel_rfl).symm.trans hf) |>.symm
      obtain rfl : fn = Tryz.f6 := (Option.some.inj (Tryz.func6.symm.trans hfn)).symm
      exact ⟨by kernel_rfl, fun j t ht => by
        rw [Tryz.params6] at ht
        have h3 : t ∈ [3, 40] := by
          have := Array.mem_of_getElem? ht
          simpa using this
        exact (show ∀ t ∈ [3, 40], Tryz.prog.wantsStandIn t = false by
          intro t ht
          simp only [List.mem_cons, List.not_mem_nil, or_false] at ht
          rcases ht with rfl | rfl
          · kernel_rfl
          · kernel_rfl) t h3⟩)
    (by kernel_rfl)
end Go.Proofs.YtjofjgflcogklaaGreatDoor

