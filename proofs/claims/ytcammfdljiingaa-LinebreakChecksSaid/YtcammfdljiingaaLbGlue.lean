/-
  The rows of this seat follow from runs of the abstract machine that answer true.
-/
import Derived.Test.YtcammfdljiingaaRows
import Derived.Test.YtcammfdljiingaaLbCC
import Derived.Test.YtcammfdljiingaaAbsLaw
set_option linter.unusedSimpArgs false
set_option linter.unusedVariables false
namespace Go.Proofs.Ytcammfdljiingaa
open Go Go.Abs Go.ChangeShapes Go.WideShapes Go.ChangeAt Go.RowKit

theorem own : ownKnob Try.prog.godebug = none := by kernel_rfl
theorem laidOut : laidOutB Try.prog = true := by kernel_rfl
theorem read3 : Try.prog.readableRec 3 = true ∧ 3 < Try.prog.types.size := ⟨by kernel_rfl, of_decide_eq_true (by kernel_rfl)⟩
theorem read22 : Try.prog.readableRec 22 = true ∧ 22 < Try.prog.types.size := ⟨by kernel_rfl, of_decide_eq_true (by kernel_rfl)⟩
theorem cells3 : Try.prog.cellsOf 3 = 1 := by kernel_rfl

theorem trodAll_cons {H : Type} {enc : TypeId × Value → H} {P : Program} {W : World} {t : TypeId} {ts : List TypeId} {vs : List Value} {ds : List (DataW H)} {p : List MemPlace} (h : DataW.TrodAll enc P W 0 (fun _ => true) true (t :: ts) vs ds p) :
    ∃ v vs' d ds' p0 q, vs = v :: vs' ∧ ds = d :: ds' ∧ DataW.Trod enc P W 0 (fun _ => true) true t v d p0 ∧ DataW.TrodAll enc P W 0 (fun _ => true) true ts vs' ds' q := by
  cases vs with
  | nil => exact h.elim
  | cons v vs =>
    cases ds with
    | nil => exact h.elim
    | cons d ds =>
      obtain ⟨p, q, h1, h2, _⟩ := h
      exact ⟨v, vs, d, ds, p, q, rfl, rfl, h1, h2⟩

theorem trodAll_nil {H : Type} {enc : TypeId × Value → H} {P : Program} {W : World} {vs : List Value} {ds : List (DataW H)} {p : List MemPlace} (h : DataW.TrodAll enc P W 0 (fun _ => true) true [] vs ds p) : vs = [] ∧ ds = [] := by
  cases vs with
  | nil => cases ds with
    | nil => exact ⟨rfl, rfl⟩
    | cons d ds => exact h.elim
  | cons v vs => cases ds <;> exact h.elim

theorem pts6 {W : World} {v0 v1 v2 v3 v4 v5 : Value} {a0 a1 a2 a3 a4 a5 : AVal} (h0 : VRel W G0 v0 a0) (h1 : VRel W G0 v1 a1) (h2 : VRel W G0 v2 a2) (h3 : VRel W G0 v3 a3) (h4 : VRel W G0 v4 a4) (h5 : VRel W G0 v5 a5) :
    Pts W G0 #[v0, v1, v2, v3, v4, v5] [a0, a1, a2, a3, a4, a5] := ⟨rfl, fun k c a hc ha => by
  match k with
  | 0 => simp at hc ha; subst hc; subst ha; exact h0
  | 1 => simp at hc ha; subst hc; subst ha; exact h1
  | 2 => simp at hc ha; subst hc; subst ha; exact h2
  | 3 => simp at hc ha; subst hc; subst ha; exact h3
  | 4 => simp at hc ha; subst hc; subst ha; exact h4
  | 5 => simp at hc ha; subst hc; subst ha; exact h5
  | k + 6 => simp at hc⟩

def Ok6 (g : Nat) : Prop := ∀ (l : List Int) (tk : Tok) (a b c d e : Int), (Arg.ints l tk).wf → (Arg.int a).wf → (Arg.int b).wf → (Arg.int c).wf → (Arg.int d).wf → (Arg.int e).wf →
  ∃ h', Gives F g [.sl (l.map (.int .i64)) tk, .int .i64 a, .int .i64 b, .int .i64 c, .int .i64 d, .int .i64 e] Heap.empty (.bool true) h'

theorem trod6 {H : Type} {enc : TypeId × Value → H} {P : Program} {W : World} {t0 t1 t2 t3 t4 t5 : TypeId} {vs : List Value} {ds : List (DataW H)} {p : List MemPlace} (h : DataW.TrodAll enc P W 0 (fun _ => true) true [t0, t1, t2, t3, t4, t5] vs ds p) :
    ∃ v0 v1 v2 v3 v4 v5 d0 d1 d2 d3 d4 d5 p0 p1 p2 p3 p4 p5, vs = [v0, v1, v2, v3, v4, v5] ∧ ds = [d0, d1, d2, d3, d4, d5] ∧ DataW.Trod enc P W 0 (fun _ => true) true t0 v0 d0 p0 ∧ DataW.Trod enc P W 0 (fun _ => true) true t1 v1 d1 p1 ∧
      DataW.Trod enc P W 0 (fun _ => true) true t2 v2 d2 p2 ∧ DataW.Trod enc P W 0 (fun _ => true) true t3 v3 d3 p3 ∧ DataW.Trod enc P W 0 (fun _ => true) true t4 v4 d4 p4 ∧ DataW.Trod enc P W 0 (fun _ => true) true t5 v5 d5 p5 := by
  obtain ⟨v0, vs, d0, ds, p0, q, rfl, rfl, h0, h⟩ := trodAll_cons h
  obtain ⟨v1, vs, d1, ds, p1, q, rfl, rfl, h1, h⟩ := trodAll_cons h
  obtain ⟨v2, vs, d2, ds, p2, q, rfl, rfl, h2, h⟩ := trodAll_cons h
  obtain ⟨v3, vs, d3, ds, p3, q, rfl, rfl, h3, h⟩ := trodAll_cons h
  obtain ⟨v4, vs, d4, ds, p4, q, rfl, rfl, h4, h⟩ := trodAll_cons h
  obtain ⟨v5, vs, d5, ds, p5, q, rfl, rfl, h5, h⟩ := trodAll_cons h
  obtain ⟨rfl, rfl⟩ := trodAll_nil h
  exact ⟨v0, v1, v2, v3, v4, v5, d0, d1, d2, d3, d4, d5, p0, p1, p2, p3, p4, p5, rfl, rfl, h0, h1, h2, h3, h4, h5⟩

set_option maxRecDepth 100000 in
theorem texts_lifted (hg : Ok6 5) (os : Os) (started : os.Started) (H : Type) (enc : TypeId × Value → H) :
    ReturnsInHanded {} Try.checked os 5 .any (Rows.linebreakTextsSpec.pre6 enc Try.prog Try.f5 Rows.linebreakTextsRow.domain false) (Rows.linebreakTextsSpec.post enc Try.prog Try.f5 false true false false) := by
  refine returnsInHanded_of_change (C := Try.checked) own started (by kernel_rfl) Try.func5
    (ChangeSpec.witness6 (enc := enc) (C := Try.checked) false ⟨#[], #[.slice none 0 0, .int .i64 0, .int .i64 0, .int .i64 0, .int .i64 0, .int .i64 0], []⟩ 8 (by kernel_rfl) (by kernel_rfl) (by kernel_rfl) (by kernel_rfl)) ?_
  intro W base args ds gs before hval0 hW hcnd _
  have hval : ∀ (j : Nat) t v, Try.f5.params[j]? = some t → args[j]? = some v → Value.okWide Try.prog W .any base t v := hval0
  have hW' := hW
  obtain ⟨p, q, hA0, hV, hpq, hfz, hnd⟩ := hW
  have hA : DataW.TrodAll enc Try.prog W 0 (fun _ => true) true Try.f5.params.toList args.toList ds p := hA0
  rw [Try.params5] at hA hval
  obtain ⟨l⟩ := args
  obtain ⟨v0, v1, v2, v3, v4, v5, d0, d1, d2, d3, d4, d5, p0, p1, p2, p3, p4, p5, hl0, rfl, h0, h1, h2, h3, h4, h5⟩ := trod6 hA
  simp only at hl0
  subst hl0
  · obtain ⟨l, tk, r0, w0⟩ := arg_ints Try.underlying22 Try.underlying3 cells3 (hval 0 22 v0 rfl rfl) h0
    obtain ⟨a, r1, w1⟩ := arg_int Try.underlying3 (hval 1 3 v1 rfl rfl) h1
    obtain ⟨b, r2, w2⟩ := arg_int Try.underlying3 (hval 2 3 v2 rfl rfl) h2
    obtain ⟨c, r3, w3⟩ := arg_int Try.underlying3 (hval 3 3 v3 rfl rfl) h3
    obtain ⟨d, r4, w4⟩ := arg_int Try.underlying3 (hval 4 3 v4 rfl rfl) h4
    obtain ⟨e, r5, w5⟩ := arg_int Try.underlying3 (hval 5 3 v5 rfl rfl) h5
    obtain ⟨h', hh⟩ := hg l tk a b c d e w0 w1 w2 w3 w4 w5
    refine (law_calls mix table (args := [.ints l tk, .int a, .int b, .int c, .int d, .int e]) (pts6 r0 r1 r2 r3 r4 r5) hh).mono ?_
    rintro e W' ⟨rfl, hB⟩
    refine ⟨_, rfl, law_post laidOut (fun t ht => ?_) rfl rfl Try.underlying4 hW' hB ?_⟩
    · have ht' : t ∈ ([22, 3, 3, 3, 3, 3] : List TypeId) := by rw [Try.params5] at ht; exact ht
      simp at ht'
      rcases ht' with rfl | rfl
      · exact read22
      · exact read3
    · match gs, hV with
      | [], _ => rfl

theorem texts_of (hg : Ok6 5) : Rows.LinebreakTextsSaid :=
  OpenClaim.holds_of_wide 5 Try.f5 rfl rfl rfl rfl rfl rfl rfl ⟨rfl, rfl, rfl, rfl, rfl⟩ rfl rfl rfl rfl rfl (by kernel_rfl) Try.func5 (by kernel_rfl)
    (of_decide_eq_true (by kernel_rfl)) (by unfold Func.isWrapper; first | (rw [if_pos (by decide +kernel)]; kernel_rfl) | (rw [if_neg (by decide +kernel)]; exact ⟨rfl, rfl⟩))
    (fun os started H enc _ => texts_lifted hg os started H enc)

end Go.Proofs.Ytcammfdljiingaa
