/-
  How an argument that is a slice of pairs or triples of numbers reads.
-/
import Derived.Test.YtbafacdknaopjaaB1
import Derived.Test.YtbafacdknaopjaaF6
import Derived.Deep.Strs
namespace Go.Proofs.Ytbafacdknaopjaa
open Go.ChangeShapes Go.WideShapes Go.RowKit
set_option linter.unusedSimpArgs false

section
variable {H : Type} {enc : TypeId × Value → H} {P : Program} {W : World} {spare : Nat → Bool} {held : Bool}

theorem cells_ink {t e : TypeId} {A : Option Addr} {len cap c : Nat} {d : DataW H} {ps : List MemPlace} (ht : P.underlying t = some (.slice e)) (hc : P.cellsOf e = c) (h0 : 0 < c)
    (good : List Value → Prop) (hgood : ∀ fuel cs x, DataW.trod enc P W 0 spare held fuel e cs = some x → good cs ∧ cs.length = c)
    (h : DataW.Trod enc P W 0 spare held t (.slice A len cap) d ps) :
    len ≤ maxLen ∧ (0 < len → ∃ b off, A = some ⟨b, off, none⟩ ∧ b < W.heap.size ∧ ∀ j, j < len → ∃ cs, good cs ∧ ∀ i u, cs[i]? = some u → W.cell? ⟨b, off + j * c + i, none⟩ = some u) := by
  obtain ⟨fuel, hf⟩ := h
  rcases DataW.trod_slice ht hf with ⟨h1, _⟩ | ⟨a, len', cap', elems, rest, n, _, h1, h2, _, hl, hm, hlen, hel, _, _⟩
  · simp only [Value.cells] at h1
    obtain ⟨rfl, rfl, rfl⟩ : A = none ∧ len = 0 ∧ cap = 0 := by simpa using h1
    exact ⟨by unfold maxLen; omega, fun h => by omega⟩
  · simp only [Value.cells] at h1
    obtain ⟨rfl, rfl, rfl⟩ : A = some a ∧ len = len' ∧ cap = cap' := by simpa using h1
    refine ⟨by omega, fun hp => ?_⟩
    have each : ∀ j, j < len → ∃ cs, good cs ∧ cs.length = c ∧ ∀ i u, cs[i]? = some u → W.cell? ((a.add (j * c)).add i) = some u := by
      intro j hj
      have h3 := hel j hj
      rw [hc, List.getElem?_eq_getElem (by omega), Option.bind_eq_some_iff] at h3
      obtain ⟨cs, hcs, hx⟩ := h3
      obtain ⟨hg, hl2⟩ := hgood _ _ _ hx
      refine ⟨cs, hg, hl2, fun i u hu => ?_⟩
      have hi := (List.getElem?_eq_some_iff.1 hu).1
      rw [(World.cells?_some hcs).2.2 i (by omega)]
      exact hu
    obtain ⟨cs0, _, hl0, hv0⟩ := each 0 hp
    obtain ⟨u0, hu0⟩ : ∃ u, cs0[0]? = some u := ⟨_, List.getElem?_eq_getElem (by omega)⟩
    obtain ⟨hs, hb⟩ := cell_lt2 (hv0 0 u0 hu0)
    obtain ⟨b, off, sp⟩ := a
    have hs' : sp = none := by
      have e : ((⟨b, off, sp⟩ : Addr).add (0 * c)).add 0 = ⟨b, off, sp⟩ := by rw [Nat.zero_mul]; rfl
      rw [e] at hs
      exact hs
    subst hs'
    refine ⟨b, off, rfl, by rw [Nat.zero_mul] at hb; exact hb, fun j hj => ?_⟩
    obtain ⟨cs, hg, _, hv⟩ := each j hj
    refine ⟨cs, hg, fun i u hu => ?_⟩
    have := hv i u hu
    have e : ((⟨b, off, none⟩ : Addr).add (j * c)).add i = ⟨b, off + j * c + i, none⟩ := by
      unfold Addr.add
      split <;> split <;> simp_all
    rwa [e] at this

/-- Pairs: arrays of two numbers. -/
theorem pairs_arr (k : IntKind) {t e e2 : TypeId} {A : Option Addr} {len cap : Nat} {d : DataW H} {ps : List MemPlace} (ht : P.underlying t = some (.slice e)) (he : P.underlying e = some (.array 2 e2)) (hk : P.underlying e2 = some (.int k)) (hc : P.cellsOf e = 2) (hc2 : P.cellsOf e2 = 1)
    (h : DataW.Trod enc P W 0 spare held t (.slice A len cap) d ps) : ∃ f g, PairsIn W k A len f g := by
  obtain ⟨h1, h3⟩ := cells_ink ht hc (by omega) (fun cs => ∃ x y, cs = [.int k x, .int k y] ∧ (Lit.int k x).wf = true ∧ (Lit.int k y).wf = true) (fun fuel cs x hx => by
    obtain ⟨xs, m, _, _, hl, hlen, hf⟩ := DataW.trod_array he hx
    rw [hc] at hl
    have f0 := hf 0 (by omega)
    have f1 := hf 1 (by omega)
    rw [hc2] at f0 f1
    rw [List.getElem?_eq_getElem (by omega)] at f0 f1
    obtain ⟨x0, e0, _, w0⟩ := DataW.trod_int hk f0
    obtain ⟨x1, e1, _, w1⟩ := DataW.trod_int hk f1
    refine ⟨⟨x0, x1, ?_, w0, w1⟩, hl⟩
    match cs, hl with
    | [u, v], _ =>
      simp at e0 e1
      rw [e0, e1]) h
  by_cases h0 : 0 < len
  · obtain ⟨b, off, rfl, hb, hcell⟩ := h3 h0
    refine ⟨fun j => match W.cell? ⟨b, off + j * 2, none⟩ with | some (.int _ x) => x | _ => 0, fun j => match W.cell? ⟨b, off + j * 2 + 1, none⟩ with | some (.int _ x) => x | _ => 0, fun _ => ⟨b, off, rfl, hb, fun j hj => ?_⟩, fun j hj => ?_, h1⟩
    · obtain ⟨cs, ⟨x, y, rfl, _, _⟩, hv⟩ := hcell j hj
      have v0 := hv 0 _ rfl
      have v1 := hv 1 _ rfl
      rw [Nat.add_zero] at v0
      simp only [v0, v1]
      exact ⟨trivial, trivial⟩
    · obtain ⟨cs, ⟨x, y, rfl, wx, wy⟩, hv⟩ := hcell j hj
      have v0 := hv 0 _ rfl
      have v1 := hv 1 _ rfl
      rw [Nat.add_zero] at v0
      simp only [v0, v1]
      exact ⟨wx, wy⟩
  · exact ⟨fun _ => 0, fun _ => 0, fun h => absurd h h0, fun j hj => by omega, h1⟩
end
end Go.Proofs.Ytbafacdknaopjaa
