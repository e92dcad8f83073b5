/-
  How an argument that is a slice of rows reads: three whole numbers each.
-/
import Derived.Test.YtcgoicijbmhmpaaW15
import Derived.DataElems
namespace Go.Proofs.Ytcgoicijbmhmpaa
open Go.ChangeShapes Go.WideShapes Go.RowKit Go.Fl

section
variable {H : Type} {enc : TypeId × Value → H} {W : World} {spare : Nat → Bool} {held : Bool}

theorem one_of {k : IntKind} {t : TypeId} {n i : Nat} {cs : List Value} {y : DataW H × List MemPlace} (ht : Try.prog.underlying t = some (.int k)) (h : DataW.trod enc Try.prog W 0 spare held n t ((cs.drop i).take 1) = some y) :
    ∃ z, cs[i]? = some (.int k z) ∧ (Lit.int k z).wf = true := by
  obtain ⟨z, h1, _, h2⟩ := DataW.trod_int ht h
  refine ⟨z, ?_, h2⟩
  have e : ((cs.drop i).take 1)[0]? = some (.int k z) := by rw [h1]; rfl
  rw [List.getElem?_take] at e
  simpa using e

theorem row_parts {fuel : Nat} {cs : List Value} {x : DataW H × List MemPlace} (h : DataW.trod enc Try.prog W 0 spare held fuel 66 cs = some x) :
    ∀ i, i < 3 → ∃ z, cs[i]? = some (.int .i64 z) ∧ (Lit.int .i64 z).wf = true := by
  obtain ⟨xs, n, _, _, _, hlen, hf⟩ := DataW.trod_struct Try.underlying66 h
  have c2 : Try.prog.cellsOf 2 = 1 := by kernel_rfl
  have c3 : Try.prog.cellsOf 3 = 1 := by kernel_rfl
  have g : ∀ i, i < 3 → ∃ y, xs[i]? = some y := fun i hi => ⟨_, List.getElem?_eq_getElem (by rw [hlen]; simpa using hi)⟩
  intro i hi
  obtain ⟨y, hy⟩ := g i hi
  match i, hi with
  | 0, _ =>
    have h0 := hf 0 _ rfl
    rw [hy] at h0
    exact one_of Try.underlying3 (by rw [← c3]; exact h0)
  | 1, _ =>
    have h0 := hf 1 _ rfl
    rw [hy] at h0
    exact one_of Try.underlying3 (by rw [← c3]; exact h0)
  | 2, _ =>
    have h0 := hf 2 _ rfl
    rw [hy] at h0
    exact one_of Try.underlying2 (by rw [← c2]; exact h0)

theorem rows_in {A : Option Addr} {len cap : Nat} {d : DataW H} {ps : List MemPlace} (h : DataW.Trod enc Try.prog W 0 spare held 51 (.slice A len cap) d ps) : ∃ f, RowsIn W A len f := by
  have c66 : Try.prog.cellsOf 66 = 3 := by kernel_rfl
  obtain ⟨fuel, hf⟩ := h
  rcases DataW.trod_slice Try.underlying51 hf with ⟨h0, _⟩ | ⟨a, len', cap', elems, rest, n, _, h1, h2, _, hl, hm, hlen, hel, _, _⟩
  · simp only [Value.cells] at h0
    obtain ⟨rfl, rfl, rfl⟩ : A = none ∧ len = 0 ∧ cap = 0 := by simpa using h0
    exact ⟨fun _ _ => 0, fun h => by omega, fun j i hj => by omega, by unfold maxLen; omega⟩
  · simp only [Value.cells] at h1
    obtain ⟨rfl, rfl, rfl⟩ : A = some a ∧ len = len' ∧ cap = cap' := by simpa using h1
    have each : ∀ j i, j < len → i < 3 → ∃ z, W.cell? (a.add (j * 3 + i)) = some (.int .i64 z) ∧ (Lit.int .i64 z).wf = true := by
      intro j i hj hi
      have h3 := hel j hj
      rw [c66, List.getElem?_eq_getElem (by omega), Option.bind_eq_some_iff] at h3
      obtain ⟨cs, hcs, hx⟩ := h3
      obtain ⟨z, hz, hw⟩ := row_parts hx i hi
      refine ⟨z, ?_, hw⟩
      have h4 := (World.cells?_some hcs).2.2 i hi
      rw [Addr.add_add] at h4
      rw [h4, hz]
    by_cases h0 : 0 < len
    · obtain ⟨v0, hv0, _⟩ := each 0 0 h0 (by omega)
      obtain ⟨hs, hb⟩ := cell_lt hv0
      obtain ⟨b, off, sp⟩ := a
      simp only [Addr.add] at hs hb
      have hs' : sp = none := by simpa using hs
      subst hs'
      have e : ∀ k, (⟨b, off, none⟩ : Addr).add k = ⟨b, off + k, none⟩ := by
        intro k
        unfold Addr.add
        split
        · rename_i h; subst h; rfl
        · rfl
      refine ⟨fun j i => match W.cell? ⟨b, off + (j * 3 + i), none⟩ with | some (.int _ x) => x | _ => 0, fun _ => ⟨b, off, rfl, by simpa using hb, fun j i hj hi => ?_⟩, fun j i hj hi => ?_, by omega⟩
      · obtain ⟨z, hz, _⟩ := each j i hj hi
        rw [e] at hz
        rw [Nat.add_assoc]
        simp only [hz]
      · obtain ⟨z, hz, hw⟩ := each j i hj hi
        rw [e] at hz
        simp only [hz]
        exact hw
    · exact ⟨fun _ _ => 0, fun h => absurd h h0, fun j i hj => by omega, by omega⟩
end
end Go.Proofs.Ytcgoicijbmhmpaa
