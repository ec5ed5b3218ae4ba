/-
  For all arguments the statement LinebreakScaled answers true, and leaves what it was given as it was.
-/
import Derived.Test.YtcammfdljiingaaM07
set_option linter.unusedVariables false
namespace Go.Proofs.Ytcammfdljiingaa
open Go Go.Abs Go.ChangeShapes Go.WideShapes Go.ChangeAt Go.RowKit

inductive PtsL6 (W : World) : List Value → List AVal → Prop
  | nil : PtsL6 W [] []
  | cons {v : Value} {u : AVal} {vs : List Value} {us : List AVal} (h : VRel W G0 v u) (t : PtsL6 W vs us) : PtsL6 W (v :: vs) (u :: us)

theorem pts_of6 {W : World} {vs : List Value} {us : List AVal} (h : PtsL6 W vs us) : Pts W G0 ⟨vs⟩ us := by
  induction h with
  | nil => exact ⟨rfl, fun k c a hc _ => by simp at hc⟩
  | cons h1 h2 ih =>
    refine ⟨by have := ih.1; simpa using this, fun k c a hc ha => ?_⟩
    cases k with
    | zero => simp at hc ha; subst hc; subst ha; exact h1
    | succ k => exact ih.2 k c a (by simpa using hc) (by simpa using ha)

set_option maxRecDepth 100000 in
theorem linebreakScaled_lifted (os : Os) (started : os.Started) (H : Type) (enc : TypeId × Value → H) :
    ReturnsInHanded {} Try.checked os 6 .any (Rows.linebreakScaledSpec.pre6 enc Try.prog Try.f6 Rows.linebreakScaledRow.domain false) (Rows.linebreakScaledSpec.post enc Try.prog Try.f6 false true false false) := by
  refine returnsInHanded_of_change (C := Try.checked) own started (by kernel_rfl) Try.func6
    (ChangeSpec.witness6 (enc := enc) (C := Try.checked) false ⟨#[], #[.slice none 0 0, .slice none 0 0, .int .i64 0], []⟩ 8 (by kernel_rfl) (by kernel_rfl) (by kernel_rfl) (by kernel_rfl)) ?_
  intro W base args ds gs before hval0 hW hcnd _
  have hval : ∀ (j : Nat) t v, Try.f6.params[j]? = some t → args[j]? = some v → Value.okWide Try.prog W .any base t v := hval0
  have hW' := hW
  obtain ⟨p, q, hA0, hV, hpq, hfz, hnd⟩ := hW
  have hA : DataW.TrodAll enc Try.prog W 0 (fun _ => true) true Try.f6.params.toList args.toList ds p := hA0
  rw [Try.params6] at hA hval
  obtain ⟨lst⟩ := args
  simp only at hA
  obtain ⟨v0, vs0, d0, ds0, p0, q0, rfl, rfl, h0, hA⟩ := trodAll_cons hA
  obtain ⟨v1, vs1, d1, ds1, p1, q1, rfl, rfl, h1, hA⟩ := trodAll_cons hA
  obtain ⟨v2, vs2, d2, ds2, p2, q2, rfl, rfl, h2, hA⟩ := trodAll_cons hA
  obtain ⟨rfl, rfl⟩ := trodAll_nil hA
  obtain ⟨l0, tk0, r0, w0⟩ := arg_ints Try.underlying22 Try.underlying3 cells3 (hval 0 22 v0 rfl rfl) h0
  obtain ⟨l1, tk1, r1, w1⟩ := arg_ints Try.underlying22 Try.underlying3 cells3 (hval 1 22 v1 rfl rfl) h1
  obtain ⟨a2, r2, w2⟩ := arg_int Try.underlying3 (hval 2 3 v2 rfl rfl) h2
  obtain ⟨h', hh⟩ := scaled_run (w0.1.elim .inl fun h => .inr h.1) w0.2.2 (w1.1.elim .inl fun h => .inr h.1) w1.2.2 w2
  refine (law_calls mix table (args := [.ints l0 tk0, .ints l1 tk1, .int a2]) (pts_of6 (.cons r0 (.cons r1 (.cons r2 .nil)))) hh).mono ?_
  rintro e W' ⟨rfl, hB⟩
  refine ⟨_, rfl, law_post laidOut (fun t ht => ?_) rfl rfl Try.underlying4 hW' hB ?_⟩
  · have ht' : t ∈ ([22, 22, 3] : List TypeId) := by rw [Try.params6] at ht; exact ht
    simp at ht'
    rcases ht' with rfl | rfl
    · exact read22
    · exact read3
  · match gs, hV with
    | [], _ => rfl

theorem linebreakScaled : Rows.LinebreakScaledSaid :=
  OpenClaim.holds_of_wide 6 Try.f6 rfl rfl rfl rfl rfl rfl rfl ⟨rfl, rfl, rfl, rfl, rfl⟩ rfl rfl rfl rfl rfl (by kernel_rfl) Try.func6 (by kernel_rfl)
    (of_decide_eq_true (by kernel_rfl)) (by unfold Func.isWrapper; first | (rw [if_pos (by decide +kernel)]; kernel_rfl) | (rw [if_neg (by decide +kernel)]; exact ⟨rfl, rfl⟩))
    (fun os started H enc _ => linebreakScaled_lifted os started H enc)

end Go.Proofs.Ytcammfdljiingaa
