import Derived.RangeFuncLeaves
import Derived.RangeFuncCalls
import Derived.Test.YtipgbbhgmoehfaaDoorZ1
/-
  The marks of ranges over functions that are over, among the deferred calls.
-/
namespace Go.Proofs.YtipgbbhgmoehfaaDoor
set_option linter.unusedSimpArgs false
set_option linter.unusedVariables false

/-- Marks, the newest first; their blocks lie from lo on. -/
def Marks (lo : Nat) (W : World) : Nat → List Deferred → Prop
  | _, [] => True
  | hi, d :: ds => ∃ D, d = { target := .collected D, args := #[] } ∧ lo ≤ D ∧ D < hi ∧ W.heap[D]? = some (.deferred (some [])) ∧ Marks lo W D ds
theorem Marks.up {lo : Nat} {W : World} : ∀ {ds : List Deferred} {hi hi' : Nat}, hi ≤ hi' → Marks lo W hi ds → Marks lo W hi' ds
  | [], _, _, _, _ => trivial
  | _ :: _, _, _, h, ⟨D, e, h1, h2, h3, h4⟩ => ⟨D, e, h1, by omega, h3, h4⟩
theorem Marks.keep {lo : Nat} {W W' : World} (hk : KeepsOthers W W') : ∀ {ds : List Deferred} {hi : Nat}, Marks lo W hi ds → Marks lo W' hi ds
  | [], _, _ => trivial
  | _ :: _, _, ⟨D, e, h1, h2, h3, h4⟩ => ⟨D, e, h1, h2, hk.same _ _ h3 rfl, Marks.keep hk h4⟩
theorem KeepsOthers.of_cells {gs : List Nat} {W W' : World} (h : Only gs W W') (hc : ∀ g, g ∈ gs → ∀ o, W.heap[g]? = some o → o.isCells = true) : KeepsOthers W W' :=
  ⟨h.size, fun k o hk ho => by
    refine (h.block k (Array.getElem?_eq_some_iff.1 hk).1 fun hm => ?_).trans hk
    rw [hc k hm o hk] at ho
    cases ho⟩
/-- Blocks of deferred calls from lo on may have been shut. -/
structure Shut (lo : Nat) (W W' : World) : Prop where
  os : W'.os = W.os
  tape : W'.tape = W.tape
  output : W'.output = W.output
  size : W'.heap.size = W.heap.size
  low : ∀ k, k < lo → W'.heap[k]? = W.heap[k]?
  cells : ∀ (k : Nat) (cs : Array Value) (t : TypeId) (fz : Nat × Nat), W.heap[k]? = some (.cells cs t fz) → W'.heap[k]? = some (.cells cs t fz)
theorem Shut.refl (lo : Nat) (W : World) : Shut lo W W := ⟨rfl, rfl, rfl, rfl, fun _ _ => rfl, fun _ _ _ _ h => h⟩
theorem Shut.trans {lo : Nat} {A B C : World} (h : Shut lo A B) (k : Shut lo B C) : Shut lo A C :=
  ⟨k.os.trans h.os, k.tape.trans h.tape, k.output.trans h.output, k.size.trans h.size, fun i hi => (k.low i hi).trans (h.low i hi), fun i cs t fz hi => k.cells i cs t fz (h.cells i cs t fz hi)⟩
theorem Shut.put {lo D : Nat} {W : World} (hD : lo ≤ D) (h : W.heap[D]? = some (.deferred (some []))) : Shut lo W (W.putObj D (.deferred none)) :=
  ⟨rfl, rfl, rfl, World.putObj_size .., fun k hk => World.putObj_heap_other (by omega), fun k cs t fz hk => (World.putObj_heap_other (by
    rintro rfl
    rw [h] at hk
    cases hk)).trans hk⟩
theorem leaves_marks {F : Fence} {n : Nat} {P : Program} {fn : Func} {tmps : Array Value} {R : Ending → World → Prop} {lo : Nat} : ∀ (ds : List Deferred) (hi : Nat) (W : World), Marks lo W hi ds →
    (∀ W', Shut lo W W' → ∃ v, (results fn tmps).run P W' = .ok v W' ∧ R (.returned v) W') → LeavesInM F n P fn tmps R ds .returning W
  | [], _, W, _, h => h W (Shut.refl _ _)
  | d :: ds, hi, W, ⟨D, e, h1, h2, h3, h4⟩, h => by
    refine ⟨by simp, .inl ⟨D, W.putObj D (.deferred none), by rw [e], run_takeDeferred h3, ?_⟩⟩
    have hs := Shut.put h1 h3
    have hm : ∀ {ds : List Deferred} {hi : Nat}, hi ≤ D → Marks lo W hi ds → Marks lo (W.putObj D (.deferred none)) hi ds := by
      intro ds
      induction ds with
      | nil => intro _ _ _; trivial
      | cons d ds ih =>
        rintro hi hle ⟨D', e, g1, g2, g3, g4⟩
        exact ⟨D', e, g1, g2, (World.putObj_heap_other (by omega)).trans g3, ih (by omega) g4⟩
    exact leaves_marks ds D _ (hm (Nat.le_refl _) h4) fun W' hW' => h W' (hs.trans hW')

end Go.Proofs.YtipgbbhgmoehfaaDoor
