/-
  A region whose order is drawn: where its check has passed, every order that Go may take gives what the order of the text gives.
-/
import Derived.Test.YtcammfdljiingaaAbsDisp
namespace Go.Abs
set_option linter.unusedSimpArgs false
set_option linter.unusedVariables false

/-! ### an operation reads its operands alone -/

theorem evalA_congr {op : AOp} {ev ev' : Opd → AVal} {h : Heap} (hx : ∀ x ∈ opdsOf op, ev x = ev' x) : evalA op ev h = evalA op ev' h := by
  cases op with
  | build z ps =>
    simp only [evalA]
    have : (ps.map fun p => (p.1, p.2.1, ev p.2.2)) = ps.map fun p => (p.1, p.2.1, ev' p.2.2) := List.map_congr_left fun p hp => by rw [hx p.2.2 (by simp only [opdsOf]; exact List.mem_map_of_mem (f := fun p : Nat × Nat × Opd => p.2.2) hp)]
    rw [this]
  | lit mode ty n sz ag z ps =>
    simp only [evalA]
    have : (ps.map fun p => (p.1 * sz, sz, ev p.2)) = ps.map fun p => (p.1 * sz, sz, ev' p.2) := List.map_congr_left fun p hp => by rw [hx p.2 (by simp only [opdsOf]; exact List.mem_map_of_mem (f := fun p : Nat × Opd => p.2) hp)]
    rw [this]
  | clo f cap =>
    simp only [evalA]
    rw [List.map_congr_left (f := ev) (g := ev') (l := cap) (fun x hx' => hx x hx')]
  | slice sz x lo hi =>
    simp only [evalA]
    rw [hx x (by simp [opdsOf])]
    have h1 : lo.map ev = lo.map ev' := by cases lo with
      | none => rfl
      | some y => simp [hx y (by simp [opdsOf])]
    have h2 : hi.map ev = hi.map ev' := by cases hi with
      | none => rfl
      | some y => simp [hx y (by simp [opdsOf])]
    rw [h1, h2]
  | sslice x lo hi =>
    simp only [evalA]
    rw [hx x (by simp [opdsOf])]
    have h1 : lo.map ev = lo.map ev' := by cases lo with
      | none => rfl
      | some y => simp [hx y (by simp [opdsOf])]
    have h2 : hi.map ev = hi.map ev' := by cases hi with
      | none => rfl
      | some y => simp [hx y (by simp [opdsOf])]
    rw [h1, h2]
  | pick a b c => simp only [evalA]; rw [hx a (by simp [opdsOf]), hx b (by simp [opdsOf]), hx c (by simp [opdsOf])]
  | alloc => rfl
  | call => rfl
  | pcall => rfl
  | mov x => simp only [evalA]; rw [hx x (by simp [opdsOf])]
  | box _ _ x => simp only [evalA]; rw [hx x (by simp [opdsOf])]
  | load _ _ x => simp only [evalA]; rw [hx x (by simp [opdsOf])]
  | nilc x => simp only [evalA]; rw [hx x (by simp [opdsOf])]
  | un _ x => simp only [evalA]; rw [hx x (by simp [opdsOf])]
  | toInt _ x => simp only [evalA]; rw [hx x (by simp [opdsOf])]
  | idstr x => simp only [evalA]; rw [hx x (by simp [opdsOf])]
  | faddr _ x => simp only [evalA]; rw [hx x (by simp [opdsOf])]
  | field _ _ _ x => simp only [evalA]; rw [hx x (by simp [opdsOf])]
  | len x => simp only [evalA]; rw [hx x (by simp [opdsOf])]
  | slen x => simp only [evalA]; rw [hx x (by simp [opdsOf])]
  | ext x _ => simp only [evalA]; rw [hx x (by simp [opdsOf])]
  | store _ x y => simp only [evalA]; rw [hx x (by simp [opdsOf]), hx y (by simp [opdsOf])]
  | bin _ _ x y => simp only [evalA]; rw [hx x (by simp [opdsOf]), hx y (by simp [opdsOf])]
  | mksl _ _ _ _ x y => simp only [evalA]; rw [hx x (by simp [opdsOf]), hx y (by simp [opdsOf])]
  | iaddr _ x y => simp only [evalA]; rw [hx x (by simp [opdsOf]), hx y (by simp [opdsOf])]
  | aaddr _ _ x y => simp only [evalA]; rw [hx x (by simp [opdsOf]), hx y (by simp [opdsOf])]
  | sidx x y => simp only [evalA]; rw [hx x (by simp [opdsOf]), hx y (by simp [opdsOf])]
  | aidx _ _ _ x y => simp only [evalA]; rw [hx x (by simp [opdsOf]), hx y (by simp [opdsOf])]
  | append _ _ _ _ _ x y => simp only [evalA]; rw [hx x (by simp [opdsOf]), hx y (by simp [opdsOf])]
  | copy _ x y => simp only [evalA]; rw [hx x (by simp [opdsOf]), hx y (by simp [opdsOf])]
  | mnx _ x y => simp only [evalA]; rw [hx x (by simp [opdsOf]), hx y (by simp [opdsOf])]

theorem execA_congr {cf : CallF} {op : AOp} {ev ev' : Opd → AVal} {h : Heap} (hx : ∀ x ∈ opdsOf op, ev x = ev' x) : execA cf op ev h = execA cf op ev' h := by
  cases op with
  | call f args =>
    simp only [execA]
    rw [hx f (by simp [opdsOf]), List.map_congr_left (fun x hx' => hx x (by simp [opdsOf, hx']))]
  | pcall f args =>
    simp only [execA]
    rw [List.map_congr_left (fun x hx' => hx x (by simp [opdsOf, hx']))]
  | _ => simp only [execA]; exact evalA_congr hx

/-! ### what an operation does to the heap -/

mutual
theorem purify_push (h : Heap) (ob : Obj) : ∀ (x : AVal) {y : AVal}, purify h x = some y → purify (h.push ob) x = some y
  | .bool _, _, e => by simpa [purify] using e
  | .int _ _, _, e => by simpa [purify] using e
  | .str _, _, e => by simpa [purify] using e
  | .sl xs (.own _ _), _, e => by simpa [purify] using e
  | .sl xs .nil, _, e => by simpa [purify] using e
  | .sl xs .none, _, e => by simpa [purify] using e
  | .nilptr, _, e => by simpa [purify] using e
  | .ptr _ _, _, e => by simp [purify] at e
  | .rp _, _, e => by simp [purify] at e
  | .ref id off len sz, y, e => by
    simp only [purify, Option.map_eq_some_iff] at e ⊢
    obtain ⟨xs, hx, rfl⟩ := e
    refine ⟨xs, ?_, rfl⟩
    unfold readRef at hx ⊢
    split at hx
    · rename_i hg
      rw [Heap.get_push_old _ (Heap.get_lt hg), hg]; exact hx
    · simp at hx
  | .fn f cap, y, e => by
    simp only [purify, Option.map_eq_some_iff] at e ⊢
    obtain ⟨c, hc, rfl⟩ := e
    exact ⟨c, purifyL_push h ob cap hc, rfl⟩
  | .nilfn, _, e => by simpa [purify] using e
  | .nilif, _, e => by simpa [purify] using e
  | .agg cs, y, e => by
    simp only [purify, Option.map_eq_some_iff] at e ⊢
    obtain ⟨c, hc, rfl⟩ := e
    exact ⟨c, purifyL_push h ob cs hc, rfl⟩
  | .tup cs, y, e => by
    simp only [purify, Option.map_eq_some_iff] at e ⊢
    obtain ⟨c, hc, rfl⟩ := e
    exact ⟨c, purifyL_push h ob cs hc, rfl⟩
  | .bad, _, e => by simp [purify] at e
theorem purifyL_push (h : Heap) (ob : Obj) : ∀ (xs : List AVal) {ys : List AVal}, purifyL h xs = some ys → purifyL (h.push ob) xs = some ys
  | [], _, e => by simpa [purifyL] using e
  | x :: xs, ys, e => by
    simp only [purifyL] at e ⊢
    split at e
    · rename_i y ys' h1 h2
      rw [purify_push h ob x h1, purifyL_push h ob xs h2]; exact e
    · simp at e
end

theorem cls_n {cf : CallF} {op : AOp} {ev : Opd → AVal} {h h' : Heap} {r : AVal} (hc : clsOf op = .n) (e : execA cf op ev h = some (r, h')) : h' = h ∧ ∀ h2, execA cf op ev h2 = some (r, h2) := by
  cases op <;> simp only [clsOf] at hc <;> try (simp at hc; done)
  case lit mode ty n sz ag z ps =>
    have hm : mode = 0 := by
      repeat' split at hc
      all_goals first
        | assumption
        | (simp at hc; done)
    subst hm
    simp only [execA, evalA] at e ⊢
    split at e
    · rename_i cs hf
      split at e
      · simp at e
      · rename_i hcond
        simp only [show ¬ ((0 : Nat) = 2) by omega, show ¬ ((0 : Nat) = 3) by omega, show ¬ ((0 : Nat) = 1) by omega, if_false] at e
        split at e
        · simp at e
        · rename_i cs' hs
          split at e
          · simp at e
          · rename_i xs hch
            simp at e; obtain ⟨rfl, rfl⟩ := e
            refine ⟨rfl, fun h2 => ?_⟩
            simp only [hcond, show ¬ ((0 : Nat) = 2) by omega, show ¬ ((0 : Nat) = 3) by omega, show ¬ ((0 : Nat) = 1) by omega, if_false, hs, hch]
            simp
    · simp at e
  all_goals
    simp only [execA, evalA] at e ⊢
    repeat' split at e
    all_goals first
      | (simp at e; done)
      | (simp only [Option.some.injEq, Prod.mk.injEq] at e; obtain ⟨rfl, rfl⟩ := e; exact ⟨rfl, fun h2 => by simp [*]⟩)
      | (simp only [Option.map_eq_some_iff, Prod.mk.injEq] at e; obtain ⟨x, e, rfl, rfl⟩ := e; exact ⟨rfl, fun h2 => by simp [*]⟩)

theorem cls_r {cf : CallF} {op : AOp} {ev : Opd → AVal} {h h' : Heap} {r : AVal} (hc : clsOf op = .r) (e : execA cf op ev h = some (r, h')) : h' = h ∧ ∀ ob, execA cf op ev (h.push ob) = some (r, h.push ob) := by
  cases op <;> simp only [clsOf] at hc <;> try (simp at hc; done)
  case lit mode ty n sz ag z ps =>
    repeat' split at hc
    all_goals simp at hc
  case load n ag x =>
    simp only [execA, evalA, Option.map_eq_some_iff, Prod.mk.injEq] at e ⊢
    obtain ⟨x', e, rfl, rfl⟩ := e
    refine ⟨rfl, fun ob => ⟨x', ?_, rfl, trivial⟩⟩
    unfold loadA at e ⊢
    split at e
    · split at e
      · rename_i hg
        rw [Heap.get_push_old _ (Heap.get_lt hg), hg]; exact e
      · simp at e
    · exact e
    · simp at e
  case pcall f args =>
    simp only [execA] at e ⊢
    split at e
    · rename_i as hs
      split at e
      · rename_i r0 h0 hcf
        simp only [Option.map_eq_some_iff, Prod.mk.injEq] at e
        obtain ⟨x, hp, rfl, rfl⟩ := e
        exact ⟨rfl, fun ob => by simp [hs, hcf, hp]⟩
      · simp at e
    · rename_i hs
      split at e
      · rename_i as hp
        split at e
        · rename_i r0 h0 hcf
          split at e
          · rename_i hsc
            simp at e; obtain ⟨rfl, rfl⟩ := e
            exact ⟨rfl, fun ob => by simp [hs, purifyL_push h ob _ hp, hcf, hsc]⟩
          · simp at e
        · simp at e
      · simp at e

theorem cls_a {cf : CallF} {op : AOp} {ev : Opd → AVal} {h h' : Heap} {r : AVal} (hc : clsOf op = .a) (e : execA cf op ev h = some (r, h')) : ∃ ob, h' = h.push ob ∧ ∀ h2 : Heap, h2.next = h.next → execA cf op ev h2 = some (r, h2.push ob) := by
  cases op <;> simp only [clsOf] at hc <;> try (simp at hc; done)
  case lit mode ty n sz ag z ps =>
    have hm : mode = 1 ∨ mode = 2 := by
      repeat' split at hc
      all_goals first
        | exact .inl (by assumption)
        | exact .inr (by assumption)
        | (simp at hc; done)
    simp only [execA, evalA] at e ⊢
    split at e
    · rename_i cs hf
      split at e
      · simp at e
      · rename_i hcond
        rcases hm with rfl | rfl
        · simp only [show ¬ ((1 : Nat) = 2) by omega, show ¬ ((1 : Nat) = 3) by omega, if_false, if_true] at e
          split at e
          · simp at e
          · rename_i cs' hs
            split at e
            · simp at e
            · rename_i xs hch
              simp at e; obtain ⟨rfl, rfl⟩ := e
              exact ⟨_, rfl, fun h2' hn => by simp only [hcond, if_false, show ¬ ((1 : Nat) = 2) by omega, show ¬ ((1 : Nat) = 3) by omega, hs, hch, if_true, hn]; simp⟩
        · simp only [if_true] at e
          simp at e; obtain ⟨rfl, rfl⟩ := e
          exact ⟨_, rfl, fun h2' hn => by simp only [hcond, if_false, if_true, hn]; simp⟩
    · simp at e
  all_goals
    simp only [execA, evalA] at e ⊢
    repeat' split at e
    all_goals first
      | (simp at e; done)
      | (simp only [Option.some.injEq, Prod.mk.injEq] at e; obtain ⟨rfl, rfl⟩ := e; exact ⟨_, rfl, fun h2 hn => by simp [*]⟩)
end Go.Abs
