/-
 The card of LayoutEntries.
-/
import Derived.Test.YthhdkkecolocdaaGreatDoorM07
import Derived.Test.YthhdkkecolocdaaGreatDoorTie
import Derived.Test.YthhdkkecolocdaaGreatDoorCards
set_option linter.unusedVariables false
set_option maxHeartbeats 40000000
namespace Go.Proofs.YthhdkkecolocdaaGreatDoor
open Go Go.Abs Go.ChangeShapes Go.WideShapes Go.ChangeAt Go.RowKit

theorem layoutEntries:Rows.LayoutEntriesCardSaid :=
 Claim7.holds_tied_plain_at .later [] [.data,.data,.data,.data,.data,.pinned] true (true, "a3d2ad99b785762e60b66c1307177826c7e79e6d391ab40b40b0050fe412dec7") false
  layoutEntriesRow_holds (fun _ h=>by cases h) (by as_aux_lemma=>kernel_rfl) (fun _ h=>by cases h) layoutEntries_row_tie rfl ⟨rfl,rfl⟩ (by as_aux_lemma=>kernel_rfl) rfl
  (fun f fn hf hfn=>by
   obtain rfl:f=3:=Option.some.inj ((show Tryz.prog.funcNamed "wordbook/wordbooklaw33.LayoutEntries"=some 3 by as_aux_lemma=>kernel_rfl).symm.trans hf) |>.symm
   obtain rfl:fn=Tryz.f3:=(Option.some.inj (Tryz.func3.symm.trans hfn)).symm
   exact ⟨by as_aux_lemma=>kernel_rfl,fun j t ht=>by
    rw [Tryz.params3] at ht
    have h3:t∈[22,22,3,3,3]:=by
     have:=Array.mem_of_getElem? ht
     simpa using this
    exact (show ∀ t∈[22,22,3,3,3],Tryz.prog.wantsStandIn t=false by
     intro t ht
     simp only [List.mem_cons,List.not_mem_nil,or_false] at ht
     rcases ht with rfl|rfl|rfl|rfl|rfl
     ·kernel_rfl
     ·kernel_rfl
     ·kernel_rfl
     ·kernel_rfl
     ·kernel_rfl) t h3⟩)
  (by as_aux_lemma=>kernel_rfl)
end Go.Proofs.YthhdkkecolocdaaGreatDoor

