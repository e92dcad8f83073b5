/-
  How an argument that is a slice of numbers reads: as a list of words, each within its kind, all of them in memory.
-/
import Derived.Test.YtbafacdknaopjaaRows
import Derived.WalkKit
import Derived.OpenShut
import Derived.ChangeSlices
import Derived.SizedLaws
import Derived.Laws.Cover2
namespace Go.Proofs.Ytbafacdknaopjaa
open Go.ChangeShapes Go.WideShapes Go.RowKit

section
variable {H : Type} {enc : TypeId × Value → H} {P : Program} {W : World} {spare : Nat → Bool} {held : Bool}

theorem cell_lt2 {w : World} {a : Addr} {v : Value} (h : w.cell? a = some v) : a.spot = none ∧ a.block < w.heap.size := by
  unfold World.cell? at h
  split at h
  · rename_i c _ _ heq
    split at h
    · cases h
    · rename_i hs
      refine ⟨by simpa using hs, ?_⟩
      exact (Array.getElem?_eq_some_iff.1 heq).1
  · cases h

/-- A slice whose elements take one cell each: what lies at its places. -/
theorem cells_in {t e : TypeId} {A : Option Addr} {len cap : Nat} {d : DataW H} {ps : List MemPlace} (ht : P.underlying t = some (.slice e)) (hc : P.cellsOf e = 1)
    (good : Value → Prop) (hgood : ∀ fuel cs x, DataW.trod enc P W 0 spare held fuel e cs = some x → ∃ v, cs = [v] ∧ good v)
    (h : DataW.Trod enc P W 0 spare held t (.slice A len cap) d ps) :
    len ≤ maxLen ∧ (len = 0 ∨ ∃ el sp, d = .slice el sp ∧ el.length = len) ∧
      (0 < len → ∃ b off, A = some ⟨b, off, none⟩ ∧ b < W.heap.size ∧ ∀ j, j < len → ∃ v, W.cell? ⟨b, off + j, none⟩ = some v ∧ good v) := by
  obtain ⟨fuel, hf⟩ := h
  rcases DataW.trod_slice ht hf with ⟨h0, _⟩ | ⟨a, len', cap', elems, rest, n, _, h1, h2, _, hl, hm, hlen, hel, _, _⟩
  · simp only [Value.cells] at h0
    obtain ⟨rfl, rfl, rfl⟩ : A = none ∧ len = 0 ∧ cap = 0 := by simpa using h0
    exact ⟨by unfold maxLen; omega, Or.inl rfl, fun h => by omega⟩
  · simp only [Value.cells] at h1
    obtain ⟨rfl, rfl, rfl⟩ : A = some a ∧ len = len' ∧ cap = cap' := by simpa using h1
    have h2' : d = .slice (elems.map (·.1)) (rest.map (·.1)) := congrArg Prod.fst h2
    refine ⟨by omega, Or.inr ⟨_, _, h2', by simp [hlen]⟩, fun h0 => ?_⟩
    have each : ∀ j, j < len → ∃ v, W.cell? (a.add j) = some v ∧ good v := by
      intro j hj
      have h3 := hel j hj
      rw [hc, Nat.mul_one, List.getElem?_eq_getElem (by omega), Option.bind_eq_some_iff] at h3
      obtain ⟨cs, hcs, hx⟩ := h3
      obtain ⟨v, rfl, hg⟩ := hgood _ _ _ hx
      exact ⟨v, cell_of_cells?_one hcs, hg⟩
    obtain ⟨v0, hv0, _⟩ := each 0 h0
    obtain ⟨hs, hb⟩ := cell_lt2 hv0
    obtain ⟨b, off, sp⟩ := a
    simp only [Addr.add] at hs hb
    have hs' : sp = none := by simpa using hs
    subst hs'
    refine ⟨b, off, rfl, by simpa using hb, fun j hj => ?_⟩
    obtain ⟨v, hv, hg⟩ := each j hj
    refine ⟨v, ?_, hg⟩
    rw [← hv]
    unfold Addr.add
    split
    · rename_i h; subst h; rfl
    · rfl

theorem slice_nil {t e : TypeId} {len cap : Nat} {d : DataW H} {ps : List MemPlace} (ht : P.underlying t = some (.slice e)) (h : DataW.Trod enc P W 0 spare held t (.slice none len cap) d ps) : cap = 0 := by
  obtain ⟨fuel, hf⟩ := h
  rcases DataW.trod_slice ht hf with ⟨h0, _⟩ | ⟨a, len', cap', elems, rest, n, _, h1, _⟩
  · simp only [Value.cells] at h0
    have h0' : len = 0 ∧ cap = 0 := by simpa using h0
    exact h0'.2
  · simp only [Value.cells] at h1
    simp at h1

/-- A list of whole numbers of one kind, as it lies in memory. -/
structure IntsIn (w : World) (k : IntKind) (A : Option Addr) (n : Nat) (f : Nat → Int) : Prop where
  row : 0 < n → ∃ b off, A = some ⟨b, off, none⟩ ∧ b < w.heap.size ∧ ∀ j, j < n → w.cell? ⟨b, off + j, none⟩ = some (.int k (f j))
  wf : ∀ j, j < n → (Lit.int k (f j)).wf = true
  len : n ≤ maxLen

theorem ints_in (k : IntKind) {t e : TypeId} {A : Option Addr} {len cap : Nat} {d : DataW H} {ps : List MemPlace} (ht : P.underlying t = some (.slice e)) (he : P.underlying e = some (.int k)) (hc : P.cellsOf e = 1)
    (h : DataW.Trod enc P W 0 spare held t (.slice A len cap) d ps) :
    ∃ f, IntsIn W k A len f ∧ (len = 0 ∨ ∃ el sp, d = .slice el sp ∧ el.length = len) := by
  obtain ⟨h1, h2, h3⟩ := cells_in ht hc (fun v => ∃ b, v = .int k b ∧ (Lit.int k b).wf = true) (fun fuel cs x hx => by
    obtain ⟨b, rfl, _, hw⟩ := DataW.trod_int he hx
    exact ⟨_, rfl, b, rfl, hw⟩) h
  by_cases h0 : 0 < len
  · obtain ⟨b, off, rfl, hb, hcell⟩ := h3 h0
    refine ⟨fun j => match W.cell? ⟨b, off + j, none⟩ with | some (.int _ x) => x | _ => 0, ⟨fun _ => ⟨b, off, rfl, hb, fun j hj => ?_⟩, fun j hj => ?_, h1⟩, h2⟩
    · obtain ⟨v, hv, x, rfl, hx⟩ := hcell j hj
      simp only [hv]
    · obtain ⟨v, hv, x, rfl, hx⟩ := hcell j hj
      simp only [hv]
      exact hx
  · exact ⟨fun _ => 0, ⟨fun h => absurd h h0, fun j hj => by omega, h1⟩, h2⟩
end
end Go.Proofs.Ytbafacdknaopjaa
