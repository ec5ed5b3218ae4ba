/-
  For all arguments the statement JournalSectors answers true and leaves what it was given as it was, the two tables of constants being what the program's text lays; and its card.
-/
import Derived.Test.YtjofjgflcogklaaDoorM04
import Derived.Test.YtjofjgflcogklaaDoorM06
import Derived.Test.YtjofjgflcogklaaDoorTie
import Derived.Test.YtjofjgflcogklaaDoorCards
set_option linter.unusedVariables false
namespace Go.Proofs.YtjofjgflcogklaaDoor
open Go Go.Abs Go.ChangeShapes Go.WideShapes Go.ChangeAt Go.RowKit

attribute [local irreducible] okA

theorem journalSectors_args (xs : List AVal) (h : ShArgs Tryd.prog 5 [3, 9, 9] xs) : ∃ h', Gives F 3 xs Heap.empty (.bool true) h' := by
  obtain _ | ⟨a0, b0, h⟩ := h
  obtain _ | ⟨a1, b1, h⟩ := h
  obtain _ | ⟨a2, b2, h⟩ := h
  obtain _ | _ := h
  obtain ⟨z0, rfl, w0⟩ := argI (n := 4) a0 b0
  obtain ⟨s1, rfl, w1⟩ := argT (n := 4) a1 b1
  obtain ⟨s2, rfl, w2⟩ := argT (n := 4) a2 b2
  obtain ⟨r, h', c, rfl⟩ := sectors_c _ _ _ w1
  exact ⟨h', c⟩

set_option maxRecDepth 100000 in
theorem journalSectors_lifted (os : Os) (started : os.Started) (H : Type) (enc : TypeId × Value → H) :
    ReturnsInHanded {} Tryd.checked os 3 .any (fun w args => (Rows.journalSectorsSpec.pre enc Tryd.prog Tryd.f3 [] false w args ∧ laidMetH Tryd.prog laidK w) ∧ sizedMet enc Tryd.prog Tryd.f3 (OpenSpec.ofChange Rows.journalSectorsSpec) false w args)
      (Rows.journalSectorsSpec.post enc Tryd.prog Tryd.f3 false true false false) := by
  refine returnsInHanded_of_change_and (C := Tryd.checked) (X := fun w _ => laidMetH Tryd.prog laidK w) (fun _ _ _ hh h => h.of_heap hh) own started (by kernel_rfl) Tryd.func3
    (ChangeSpec.witness_shaped (enc := enc) (C := Tryd.checked) (os := os) (X := fun w _ => laidMetH Tryd.prog laidK w) false (World.doorLaid Tryd.prog 2000 os) #[.int .i64 0, .string .empty, .string .empty] 8 rfl (World.shaped_of_RefB (by kernel_rfl) (by kernel_rfl)) (by kernel_rfl) (by kernel_rfl) (by kernel_rfl) (door_met os _)) ?_
  intro W base args ds gs before hval hW _ _ hL _
  refine row_calls (globs hL) (P := Tryd.prog) (n := 5) (ts := [3, 9, 9]) (tb := 4) mixed table laidOut (congrArg Array.toList Tryd.params3) (fun t ht => ?_) (fun t ht => ?_) rfl Tryd.underlying4 rfl (fun H ds hl => ?_) journalSectors_args base args ds gs before hval hW
  · simp only [List.mem_cons, List.not_mem_nil, or_false] at ht
    rcases ht with rfl | rfl | rfl
    · exact ⟨by kernel_rfl, of_decide_eq_true (by kernel_rfl)⟩
    · exact ⟨by kernel_rfl, of_decide_eq_true (by kernel_rfl)⟩
    · exact ⟨by kernel_rfl, of_decide_eq_true (by kernel_rfl)⟩
  · simp only [List.mem_cons, List.not_mem_nil, or_false] at ht
    rcases ht with rfl | rfl | rfl
    · kernel_rfl
    · kernel_rfl
    · kernel_rfl
  · match ds, hl with
    | [d0, d1, d2], _ => rfl

theorem journalSectorsRow_holds : Rows.JournalSectorsSaid :=
  OpenClaim.holds_of_wide 3 Tryd.f3 rfl rfl rfl rfl rfl rfl rfl ⟨rfl, rfl, rfl, rfl, rfl⟩ rfl rfl rfl rfl rfl (by kernel_rfl) Tryd.func3 (by kernel_rfl)
    (of_decide_eq_true (by kernel_rfl)) (by unfold Func.isWrapper; first | (rw [if_pos (by decide +kernel)]; kernel_rfl) | (rw [if_neg (by decide +kernel)]; exact ⟨rfl, rfl⟩))
    (fun os started H enc _ => journalSectors_lifted os started H enc)

theorem journalSectors : Rows.JournalSectorsCardSaid :=
  Claim7.holds_tied_plain_at .later [] [.data, .data] true (true, "89ee6c31c3a1a00b4fa7c110b94d20589e5410ac2af746354883a772673b456d") false
    journalSectorsRow_holds (fun _ h => by cases h) (by kernel_rfl) (fun _ h => by cases h) journalSectors_row_tie rfl ⟨rfl, rfl⟩ (by kernel_rfl) rfl
    (fun f fn hf hfn => by
      obtain rfl : f = 3 := Option.some.inj ((show Tryd.prog.funcNamed "wordbook/wordbooklaw39.JournalSectors" = some 3 by kernel_rfl).symm.trans hf) |>.symm
      obtain rfl : fn = Tryd.f3 := (Option.some.inj (Tryd.func3.symm.trans hfn)).symm
      exact ⟨by kernel_rfl, fun j t ht => by
        rw [Tryd.params3] at ht
        have h3 : t ∈ [3, 9, 9] := by
          have := Array.mem_of_getElem? ht
          simpa using this
        exact (show ∀ t ∈ [3, 9, 9], Tryd.prog.wantsStandIn t = false by
          intro t ht
          simp only [List.mem_cons, List.not_mem_nil, or_false] at ht
          rcases ht with rfl | rfl | rfl
          · kernel_rfl
          · kernel_rfl
          · kernel_rfl) t h3⟩)
    (by kernel_rfl)
end Go.Proofs.YtjofjgflcogklaaDoor
