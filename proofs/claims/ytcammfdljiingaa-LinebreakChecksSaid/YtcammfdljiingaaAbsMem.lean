/-
  Loads and stores of the model's memory, as the abstract machine needs them.
-/
import Derived.Test.YtcammfdljiingaaAbsVal
import Derived.Laws.AppendOwn
import Derived.Laws.OwnMore
import Derived.Laws.Strings
import Derived.Laws.StructEq
import Derived.Laws.Slices
import Derived.Laws.Panics
namespace Go.Abs

theorem VRel.one {w : World} {G : Ghost} {v : Value} {c : AVal} (r : VRel w G v c) (h : c.one = true) : v.oneCell' = true ∧ v.cells = #[v] := by
  cases r <;> first
    | (simp [AVal.one] at h; done)
    | exact ⟨rfl, rfl⟩

/-- The cells from a place on stand for a list. -/
def CellsAt (w : World) (G : Ghost) (b off : Nat) (cs : List AVal) : Prop := ∀ (k : Nat) (c : AVal), cs[k]? = some c → ∃ u, w.cell? ⟨b, off + k, none⟩ = some u ∧ VRel w G u c

theorem CellsAt.drop {w : World} {G : Ghost} {b off : Nat} {cs : List AVal} (h : CellsAt w G b off cs) (n : Nat) : CellsAt w G b (off + n) (cs.drop n) := by
  intro k c hk
  rw [List.getElem?_drop] at hk
  have := h _ c hk
  rwa [← Nat.add_assoc] at this

theorem CellsAt.take {w : World} {G : Ghost} {b off : Nat} {cs : List AVal} (h : CellsAt w G b off cs) (n : Nat) : CellsAt w G b off (cs.take n) := by
  intro k c hk
  rw [List.getElem?_take] at hk
  split at hk
  · exact h k c hk
  · simp at hk

/-- The values that lie there. -/
theorem CellsAt.vals {w : World} {G : Ghost} {b off : Nat} {cs : List AVal} (h : CellsAt w G b off cs) :
    ∃ vs : List Value, vs.length = cs.length ∧ (∀ j v, vs[j]? = some v → w.cell? ⟨b, off + j, none⟩ = some v) ∧ (∀ (k : Nat) (v : Value) (c : AVal), vs[k]? = some v → cs[k]? = some c → VRel w G v c) := by
  induction cs generalizing off with
  | nil => exact ⟨[], rfl, by simp, by simp⟩
  | cons c cs ih =>
    obtain ⟨u, hu1, hu2⟩ := h 0 c rfl
    obtain ⟨vs, e1, e2, e3⟩ := ih (off := off + 1) (by simpa using h.drop 1)
    refine ⟨u :: vs, by simp [e1], fun j v hj => ?_, fun k v c' hv hc => ?_⟩
    · cases j with
      | zero => simp at hj; subst hj; simpa using hu1
      | succ j => have := e2 j v (by simpa using hj); rw [← this]; congr 2; omega
    · cases k with
      | zero => simp at hv hc; subst hv; subst hc; exact hu2
      | succ k => exact e3 k v c' (by simpa using hv) (by simpa using hc)

section
variable {P : Program}

theorem tSize_some {t : TypeId} {n : Nat} (h : tSize P t = some n) : ∃ i, P.info? t = some i ∧ i.size = n := by
  simpa [tSize] using h

theorem run_sizeOf' {t : TypeId} {n : Nat} (h : tSize P t = some n) (w : World) : (sizeOf t).run P w = .ok n w := by
  obtain ⟨i, hi, rfl⟩ := tSize_some h
  simp [sizeOf, typeInfo, hi]

theorem run_isAgg' {t : TypeId} {a : Bool} (h : tAgg P t = some a) (w : World) : (isAgg t).run P w = .ok a w := by
  simp only [tAgg, Option.map_eq_some_iff] at h
  obtain ⟨d, hd, rfl⟩ := h
  simp only [isAgg, Sem.run_bind, run_underlying hd, Result.andThen_ok]
  cases d <;> rfl

theorem run_zeroValue' {t : TypeId} {i : TypeInfo} {z : Value} (h : P.info? t = some i) (hz : i.zero = some z) (w : World) : (zeroValue t).run P w = .ok z w := by
  simp [zeroValue, typeInfo, h, hz]

theorem load_cells {w : World} {G : Ghost} {b off n : Nat} {ag : Bool} {t : TypeId} {cs : List AVal} {r : AVal} (h : CellsAt w G b off cs) (ho : ∀ c ∈ cs, c.one = true) (hn : n ≤ cs.length)
    (hs : tSize P t = some n) (ha : tAgg P t = some ag) (hm : mk ag (cs.take n) = some r) : ∃ v, (loadVar t ⟨b, off, none⟩).run P w = .ok v w ∧ VRel w G v r := by
  obtain ⟨vs, e1, e2, e3⟩ := (h.take n).vals
  have hl : vs.length = n := by rw [e1, List.length_take]; omega
  cases ag with
  | true =>
    simp [mk] at hm; subst hm
    refine ⟨.agg vs.toArray, ?_, .agg _ _ (by simp [e1]) (fun k c a hc ha => e3 k c a (by simpa using hc) ha) (fun c hc => ho c (List.mem_of_mem_take hc))⟩
    have hlc := run_loadCells_list (P := P) w ⟨b, off, none⟩ vs (fun j v hj => by rw [Addr.add_lit]; exact e2 j v hj)
    rw [hl] at hlc
    simp [loadVar, run_isAgg' ha, run_sizeOf' hs, hlc]
  | false =>
    simp only [mk, Bool.false_eq_true, if_false] at hm
    split at hm
    · rename_i c hc
      obtain rfl := Option.some.inj hm
      have h0 : (cs.take n)[0]? = some c := by rw [hc]; rfl
      obtain ⟨u, hu1, hu2⟩ := (h.take n) 0 c h0
      refine ⟨u, ?_, hu2⟩
      simp only [Nat.add_zero] at hu1
      simp [loadVar, run_isAgg' ha, hu1]
    · simp at hm

/-- What a store of cells has done. -/
structure Wrote (w : World) (b off : Nat) (vs : List Value) (w' : World) : Prop where
  os : w'.os = w.os
  tape : w'.tape = w.tape
  out : w'.output = w.output
  size : w'.heap.size = w.heap.size
  other : ∀ c, c ≠ b → w'.heap[c]? = w.heap[c]?
  shape : w'.shape? b = w.shape? b
  frozen : ∀ k, w'.frozen? ⟨b, k, none⟩ = w.frozen? ⟨b, k, none⟩
  fz : fzr w' b = fzr w b
  cell : ∀ k, w'.cell? ⟨b, k, none⟩ = if off ≤ k ∧ k < off + vs.length then vs[k - off]? else w.cell? ⟨b, k, none⟩

theorem setCell_wrote {w : World} {b off : Nat} {v u : Value} (h : w.cell? ⟨b, off, none⟩ = some u) : Wrote w b off [v] (w.setCell ⟨b, off, none⟩ v) where
  os := rfl
  tape := rfl
  out := rfl
  size := by simp
  other := fun c hc => heap_setCell_other w _ c v hc
  shape := by
    simp only [World.shape?, World.setCell, Array.getElem?_modify, ↓reduceIte]
    cases w.heap[b]? with
    | none => rfl
    | some o => cases o <;> simp
  frozen := fun k => by
    simp only [World.frozen?, World.setCell, Array.getElem?_modify, ↓reduceIte]
    cases w.heap[b]? with
    | none => rfl
    | some o => cases o <;> simp
  fz := by
    simp only [fzr, World.setCell, Array.getElem?_modify, ↓reduceIte]
    cases w.heap[b]? with
    | none => rfl
    | some o => cases o <;> simp
  cell := fun k => by
    by_cases e : k = off
    · subst e
      rw [World.cell?_setCell_same (h := h)]; simp
    · rw [World.cell?_setCell_other (h := by simp; omega), if_neg (by simp; omega)]

theorem Wrote.trans {w w1 w2 : World} {b off : Nat} {v : Value} {vs : List Value} (h1 : Wrote w b off [v] w1) (h2 : Wrote w1 b (off + 1) vs w2) : Wrote w b off (v :: vs) w2 where
  os := h2.os.trans h1.os
  tape := h2.tape.trans h1.tape
  out := h2.out.trans h1.out
  size := h2.size.trans h1.size
  other := fun c hc => (h2.other c hc).trans (h1.other c hc)
  shape := h2.shape.trans h1.shape
  frozen := fun k => (h2.frozen k).trans (h1.frozen k)
  fz := h2.fz.trans h1.fz
  cell := fun k => by
    rw [h2.cell, h1.cell]
    simp only [List.length_cons, List.length_nil]
    by_cases e : k = off
    · subst e
      rw [if_neg (by omega), if_pos (by omega), if_pos (by omega)]; simp
    · by_cases e2 : off + 1 ≤ k ∧ k < off + 1 + vs.length
      · rw [if_pos e2, if_pos (by omega), show k - off = (k - (off + 1)) + 1 by omega, List.getElem?_cons_succ]
      · rw [if_neg e2, if_neg (by omega), if_neg (by omega)]

theorem run_storeCells_ex (b o : Nat) : ∀ (vs : List Value) (i : Nat) (w : World), (∀ j, j < vs.length → (∃ u, w.cell? ⟨b, o + i + j, none⟩ = some u) ∧ w.frozen? ⟨b, o + i + j, none⟩ = false) →
    (∀ v ∈ vs, v.oneCell' = true) → ∃ w', (storeCells ⟨b, o, none⟩ vs i).run P w = .ok () w' ∧ Wrote w b (o + i) vs w'
  | [], i, w, _, _ => ⟨w, rfl, rfl, rfl, rfl, rfl, fun _ _ => rfl, rfl, fun _ => rfl, rfl, fun k => by simp; intro h1 h2; omega⟩
  | v :: vs, i, w, h, h1 => by
    obtain ⟨⟨u, hu⟩, hf⟩ := h 0 (by simp)
    simp only [Nat.add_zero] at hu hf
    have hw := setCell_wrote (v := v) hu
    obtain ⟨w', hr, hw'⟩ := run_storeCells_ex b o vs (i + 1) (w.setCell ⟨b, o + i, none⟩ v) (fun j hj => by
      have hj' := h (j + 1) (by simp; omega)
      rw [show o + (i + 1) + j = o + i + (j + 1) by omega, hw.cell, hw.frozen, if_neg (by simp <;> omega)]
      exact hj') (fun x hx => h1 x (by simp [hx]))
    refine ⟨w', ?_, hw.trans (by rw [show o + i + 1 = o + (i + 1) by omega]; exact hw')⟩
    simp only [storeCells, Sem.run_bind, Addr.add_lit, run_store P w _ v _ (h1 v (by simp)), hu, hf, Bool.false_eq_true, if_false, Result.andThen_ok]
    exact hr
end
end Go.Abs
