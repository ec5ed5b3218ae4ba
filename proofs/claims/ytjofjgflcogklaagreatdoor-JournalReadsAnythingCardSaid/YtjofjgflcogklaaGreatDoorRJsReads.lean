/-
  For all texts, the statement JournalReadsAnything answers true and leaves what it was given as it was, the two tables of constants being what the program's text lays; and its card.
-/
import Derived.Test.YtjofjgflcogklaaGreatDoorM05
import Derived.Test.YtjofjgflcogklaaGreatDoorM07
import Derived.Test.YtjofjgflcogklaaGreatDoorTie
import Derived.Test.YtjofjgflcogklaaGreatDoorCards
set_option linter.unusedVariables false
namespace Go.Proofs.YtjofjgflcogklaaGreatDoor
open Go Go.Abs Go.ChangeShapes Go.WideShapes Go.ChangeAt Go.RowKit

theorem maxLen_eq : maxLen = 9223372036854775807 := by unfold maxLen; first | rfl | decide
theorem readS : Tryz.prog.readableRec 22 = true ∧ 22 < Tryz.prog.types.size := ⟨by kernel_rfl, of_decide_eq_true (by kernel_rfl)⟩
theorem shapeS : shapeOk Tryz.prog 5 22 = true := by kernel_rfl

attribute [local irreducible] okA

theorem mk_one {ag : Bool} {x c : AVal} (h : mk false x.cells = some x) (hc : x.cells = [c]) : x = c := by
  rw [hc] at h; simpa [mk] using h.symm
theorem argT {n : Nat} {x : AVal} (h1 : mk (isSt Tryz.prog 9) x.cells = some x) (h2 : okA Tryz.prog (n + 1) 9 x.cells) : ∃ s, x = strV s ∧ s.length ≤ 9223372036854775807 := by
  have hst : isSt Tryz.prog 9 = false := by kernel_rfl
  rw [hst] at h1
  rw [okA] at h2
  simp only [Tryz.underlying9] at h2
  obtain ⟨z, hz, hw⟩ := h2
  rw [maxLen_eq] at hw
  exact ⟨z, mk_one (ag := false) h1 hz, hw⟩
theorem list_of {α : Type} {p : AVal → Prop} {f : α → AVal} {q : α → Prop} (hp : ∀ x, p x → ∃ a, x = f a ∧ q a) : ∀ {xs : List AVal}, (∀ x ∈ xs, p x) → ∃ l : List α, xs = l.map f ∧ ∀ a ∈ l, q a
  | [], _ => ⟨[], rfl, by simp⟩
  | x :: xs, h => by
    obtain ⟨z, rfl, hz⟩ := hp x (h x (by simp))
    obtain ⟨l, rfl, hl⟩ := list_of hp (xs := xs) (fun y hy => h y (by simp [hy]))
    exact ⟨z :: l, rfl, fun p hp => by
      rcases List.mem_cons.1 hp with rfl | hp
      · exact hz
      · exact hl p hp⟩
theorem argS {n : Nat} {x : AVal} (h1 : mk (isSt Tryz.prog 22) x.cells = some x) (h2 : okA Tryz.prog (n + 2) 22 x.cells) : ∃ (l : List (List UInt8)) (tk : Abs.Tok), x = .sl (l.map strV) tk ∧ (∀ s ∈ l, s.length ≤ 9223372036854775807) ∧ l.length ≤ 9223372036854775807 := by
  have hst : isSt Tryz.prog 22 = false := by kernel_rfl
  rw [hst] at h1
  rw [okA] at h2
  simp only [Tryz.underlying22] at h2
  obtain ⟨xs, tk, hx, htk, hlen, hall⟩ := h2
  rw [maxLen_eq] at hlen
  obtain ⟨l, rfl, hl⟩ := list_of (f := strV) (q := fun s => s.length ≤ 9223372036854775807) (fun x hx => argT (n := n) hx.1 hx.2) hall
  exact ⟨l, tk, mk_one (ag := false) h1 hx, hl, by simpa using hlen⟩

theorem journalReadsAnything_args (xs : List AVal) (h : ShArgs Tryz.prog 5 [22] xs) : ∃ h', Gives F 3 xs Heap.empty (.bool true) h' := by
  obtain _ | ⟨a0, b0, h⟩ := h
  obtain _ | _ := h
  obtain ⟨l, tk, rfl, hl, hn⟩ := argS (n := 3) a0 b0
  obtain ⟨r, h', c, rfl⟩ := reads_c l tk hl hn
  exact ⟨h', c⟩

set_option maxRecDepth 100000 in
theorem journalReadsAnything_lifted (os : Os) (started : os.Started) (H : Type) (enc : TypeId × Value → H) :
    ReturnsInHanded {} Tryz.checked os 3 .any (fun w args => (Rows.journalReadsAnythingSpec.pre enc Tryz.prog Tryz.f3 [] false w args ∧ laidMetH Tryz.prog laidK w) ∧ sizedMet enc Tryz.prog Tryz.f3 (OpenSpec.ofChange Rows.journalReadsAnythingSpec) false w args)
      (Rows.journalReadsAnythingSpec.post enc Tryz.prog Tryz.f3 false true false false) := by
  refine returnsInHanded_of_change_and (C := Tryz.checked) (X := fun w _ => laidMetH Tryz.prog laidK w) (fun _ _ _ hh h => h.of_heap hh) own started (by kernel_rfl) Tryz.func3
    (ChangeSpec.witness_shaped (enc := enc) (C := Tryz.checked) (os := os) (X := fun w _ => laidMetH Tryz.prog laidK w) false (World.doorLaid Tryz.prog 2000 os) #[.slice none 0 0] 8 rfl (World.shaped_of_RefB (by kernel_rfl) (by kernel_rfl)) (by kernel_rfl) (by kernel_rfl) (by kernel_rfl) (door_met os _)) ?_
  intro W base args ds gs before hval hW _ _ hL _
  refine row_calls (globs hL) (P := Tryz.prog) (n := 5) (ts := [22]) (tb := 4) mixed table laidOut (congrArg Array.toList Tryz.params3) (fun t ht => ?_) (fun t ht => ?_) rfl Tryz.underlying4 rfl (fun H ds hl => ?_) journalReadsAnything_args base args ds gs before hval hW
  · simp only [List.mem_cons, List.not_mem_nil, or_false] at ht
    rcases ht with rfl
    · exact readS
  · simp only [List.mem_cons, List.not_mem_nil, or_false] at ht
    rcases ht with rfl
    · exact shapeS
  · match ds, hl with
    | [d0], _ => rfl

theorem journalReadsAnythingRow_holds : Rows.JournalReadsAnythingSaid :=
  OpenClaim.holds_of_wide 3 Tryz.f3 rfl rfl rfl rfl rfl rfl rfl ⟨rfl, rfl, rfl, rfl, rfl⟩ rfl rfl rfl rfl rfl (by kernel_rfl) Tryz.func3 (by kernel_rfl)
    (of_decide_eq_true (by kernel_rfl)) (by unfold Func.isWrapper; first | (rw [if_pos (by decide +kernel)]; kernel_rfl) | (rw [if_neg (by decide +kernel)]; exact ⟨rfl, rfl⟩))
    (fun os started H enc _ => journalReadsAnything_lifted os started H enc)

theorem journalReadsAnything : Rows.JournalReadsAnythingCardSaid :=
  Claim7.holds_tied_plain_at .later [] [.data, .data] true (true, "10f3d6b8ba93c125f2a9c82f95533d9afc8ae057f8dfbff65b0c40b7dae2976c") false
    journalReadsAnythingRow_holds (fun _ h => by cases h) (by kernel_rfl) (fun _ h => by cases h) journalReadsAnything_row_tie rfl ⟨rfl, rfl⟩ (by kernel_rfl) rfl
    (fun f fn hf hfn => by
      obtain rfl : f = 3 := Option.some.inj ((show Tryz.prog.funcNamed "wordbook/wordbooklaw39.JournalReadsAnything" = some 3 by kernel_rfl).symm.trans hf) |>.symm
      obtain rfl : fn = Tryz.f3 := (Option.some.inj (Tryz.func3.symm.trans hfn)).symm
      exact ⟨by kernel_rfl, fun j t ht => by
        rw [Tryz.params3] at ht
        have h3 : t = 22 := by
          rcases j with _ | j
          · simpa using ht.symm
          · simp at ht
        subst h3
        exact (show Tryz.prog.wantsStandIn 22 = false by kernel_rfl)⟩)
    (by kernel_rfl)
end Go.Proofs.YtjofjgflcogklaaGreatDoor
