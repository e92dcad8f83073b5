import Derived.Test.YtipgbbhgmoehfaaDoorYTO
/-
  A range over an iterator that is never stopped: the law, where a round is asked for the elements alone that may come next.
-/
namespace Go.Proofs.YtipgbbhgmoehfaaDoor
open Go.RowKit Go.Shelf
set_option linter.unusedSimpArgs false
set_option linter.unusedVariables false
set_option linter.unusedSectionVars false

/-- All blocks of cells but these. -/
def KeepG (gs : List Nat) (W W' : World) : Prop := ∀ k cs t fz, k ∉ gs → W.heap[k]? = some (.cells cs t fz) → W'.heap[k]? = some (.cells cs t fz)
theorem KeepG.refl (gs : List Nat) (W : World) : KeepG gs W W := fun _ _ _ _ _ h => h
theorem KeepG.trans {gs : List Nat} {A B C : World} (h : KeepG gs A B) (k : KeepG gs B C) : KeepG gs A C := fun i cs t fz hi hA => k i cs t fz hi (h i cs t fz hi hA)
theorem KeepG.put {gs : List Nat} {W : World} {l : Nat} {o : Obj} (o' : Obj) (h : W.heap[l]? = some o) (hc : o.isCells = false) : KeepG gs W (W.putObj l o') := by
  intro k cs t fz _ hk
  have hne : k ≠ l := by
    rintro rfl
    rw [h] at hk
    cases hk
    simp [Obj.isCells] at hc
  rw [World.putObj_heap_other hne]
  exact hk
theorem KeepG.only {gs : List Nat} {W W' : World} (h : Only gs W W') : KeepG gs W W' := fun k cs t fz hk hW => (h.block k (heap_lt hW) hk).trans hW
theorem KeepG.row {gs : List Nat} {W W' : World} {t : TypeId} {b n : Nat} {f : Nat → Int} (h : KeepG gs W W') (hr : RowZ W t b n f) (hb : b ∉ gs) : RowZ W' t b n f := by
  obtain ⟨cs, hc, r⟩ := hr
  exact ⟨cs, h _ _ _ _ hb hc, r⟩

section
variable {α : Type}
/-- The contract of an iterator: al: what may come next; fin: what has come at the end. -/
def Gives (n : Nat) (gf : Nat) (lb : Array Value) (encs : α → Array Value) (al : List α → α → Prop) (fin : List α → Prop) (Kp : World → World → Prop) (w : World) : Prop :=
  ∀ (l : Nat) (J : List α → World → Prop) (W : World), Only [] w W → OwnFrom W.heap.size J →
    (∀ (pre : List α) (x : α) (W1 : World), J pre W1 → al pre x → YieldAt Fence.wide (n - 1) Tryd.prog l (encs x) W1 fun e W' => e = .returned (.bool true) ∧ J (pre ++ [x]) W' ∧ Kp W1 W') →
    J [] W → CallsIn Fence.wide n Tryd.prog gf (#[.func (.yield l) #[] #[]] ++ lb) W fun e W' => (∃ v, e = .returned v) ∧ ∃ xs, fin xs ∧ J xs W'
/-- How the body of a round ends. -/
def roundA (Kp : World → World → Prop) (I : List α → World → Prop) (xs : List α) (W : World) : Exit → Act → World → Prop
  | .normal, _, W' => KeepsOthers W W' ∧ Kp W W' ∧ I xs W'
  | _, _, _ => False
/-- The two blocks of a loop: its record, and the block for the rounds' deferred calls. -/
structure BookA (B : Nat) (rec : LoopState → Option Code → Loop) (s : LoopState) (j : Option Code) (W : World) : Prop where
  loop : W.heap[B + 1]? = some (.loop (rec s j))
  defs : W.heap[B]? = some (.deferred (some []))
theorem BookA.lt {B : Nat} {rec : LoopState → Option Code → Loop} {s : LoopState} {j : Option Code} {W : World} (h : BookA B rec s j W) : B + 1 < W.heap.size := (Array.getElem?_eq_some_iff.1 h.loop).1
theorem BookA.put {B : Nat} {rec : LoopState → Option Code → Loop} {s : LoopState} {j : Option Code} {W : World} (h : BookA B rec s j W) (s' : LoopState) (j' : Option Code) : BookA B rec s' j' (W.putObj (B + 1) (.loop (rec s' j'))) :=
  ⟨World.putObj_heap_same h.lt, (World.putObj_heap_other (by omega)).trans h.defs⟩
theorem BookA.keep {B : Nat} {rec : LoopState → Option Code → Loop} {s : LoopState} {j : Option Code} {W W' : World} (h : BookA B rec s j W) (k : KeepsOthers W W') : BookA B rec s j W' := ⟨k.same _ _ h.loop rfl, k.same _ _ h.defs rfl⟩
theorem BookA.own {β : Type} {B : Nat} {rec : LoopState → Option Code → Loop} {s : LoopState} {j : Option Code} (B1 : Nat) (hB : B + 1 < B1) : OwnFrom B1 (fun (_ : β) W => BookA B rec s j W) := fun _ W W' row h hg hr => by
  have hk : ∀ k, k ≤ B + 1 → some k ≠ row := fun k hk e => by have := (hr k e.symm).1; omega
  have h2 := h.lt
  exact ⟨(hg.block _ h2 (hk _ (Nat.le_refl _))).trans h.loop, (hg.block _ (by omega) (hk _ (by omega))).trans h.defs⟩

theorem range_allowed {n : Nat} {g : Operand} {ps : Array Tmp} {assign body : Code} {Q : Exit → Act → World → Prop} {a : Act} {w : World} {gf : Nat} {lb : Array Value}
    {encs : α → Array Value} {al : List α → α → Prop} {fin : List α → Prop} {Kp : World → World → Prop}
    (h1 : 1 ≤ n) (hg : a.eval g = .func (.func gf) #[] lb) (eg : ∀ args w, (callFunc gf args).run Tryd.prog w = .ok (.enter gf args) w) (hseq : Gives (n - 1) gf lb encs al fin Kp w) (hps : ∀ x, (encs x).size = ps.size)
    (hKt : ∀ {A B C : World}, Kp A B → Kp B C → Kp A C) (hKb : ∀ (W : World) (l : Nat) (o o' : Obj), W.heap[l]? = some o → o.isCells = false → Kp W (W.putObj l o'))
    (I : List α → World → Prop) (hI : OwnFrom w.heap.size I) (h0 : I [] w) (a₁ : α → Act)
    (hassign : ∀ (l : Nat) (x : α) (W : World) (K : Act → World → Prop), K (a₁ x) W →
      assign.wpIn (Fence.wide.inRound l) (n - 1 - 1) Tryd.prog (Exit.then K (fun _ _ _ => False)) { tmps := (ps.zip (encs x)).foldl (fun t (p, v) => t.setIfInBounds p v) a.tmps, defers := [] } W)
    (hbody : ∀ (l : Nat) (pre : List α) (x : α) (W : World), I pre W → al pre x → body.wpIn (Fence.wide.inRound l) (n - 1 - 1) Tryd.prog (roundA Kp I (pre ++ [x]) W) (a₁ x) W)
    (hdone : ∀ (D : Nat) (xs : List α) (W : World), w.heap.size ≤ D → fin xs → I xs W → W.heap[D]? = some (.deferred (some [])) → Q .normal { a with defers := { target := .collected D, args := #[] } :: a.defers } W) :
    (Code.rangeFunc g ps assign body).wpIn Fence.wide n Tryd.prog Q a w := by
  refine wpIn_rangeFunc fun fn hfn => ?_
  rw [show Fence.wide.round = none from rfl]
  obtain ⟨rec, hrec⟩ : ∃ rec : LoopState → Option Code → Loop, rec = fun st pe => { state := st, pending := pe, fn, tmps := a.tmps, params := ps, assign, body, defers := w.heap.size } := ⟨_, rfl⟩
  obtain ⟨B, hB⟩ : ∃ B, w.heap.size = B := ⟨_, rfl⟩
  obtain ⟨W1, hW1⟩ : ∃ W1, (w.alloc (.deferred (some []))).alloc (.loop (rec .ready none)) = W1 := ⟨_, rfl⟩
  have hsz : W1.heap.size = B + 2 := by rw [← hW1, World.size_alloc, World.size_alloc, hB]
  have hO : Only [] w W1 := hW1 ▸ ((Only.refl [] w).alloc _).alloc _
  have book1 : BookA B rec .ready none W1 := by
    refine ⟨?_, ?_⟩
    · have := World.alloc_heap_new (w.alloc (.deferred (some []))) (.loop (rec .ready none))
      rw [World.size_alloc, hB] at this
      rw [← hW1]; exact this
    · rw [← hW1, ← hB]; exact (Below.heap_alloc _ _ _ (by simp)).trans (World.alloc_heap_new w _)
  have hI1 : I [] W1 := by rw [← hW1]; exact hI.alloc _ (hI.alloc _ h0)
  have lift : OwnFrom W1.heap.size I := fun s A C row hs hg' hr => hI s A C row hs hg' fun r e => ⟨by have := (hr r e).1; omega, (hr r e).2⟩
  have turn : ∀ {s : List α} {W : World} {st : LoopState} {j : Option Code} (st' : LoopState) (j' : Option Code), I s W → BookA B rec st j W → I s (W.putObj (B + 1) (.loop (rec st' j'))) := fun st' j' hs hb => hI.putObj _ hs (by omega) hb.loop rfl
  refine ⟨B + 1, [{ target := .collected B, args := #[] }], W1, { target := .fn (.func gf) lb, args := #[.func (.yield (B + 1)) #[] #[]] }, W1, gf, #[.func (.yield (B + 1)) #[] #[]] ++ lb, W1, ?_, ?_, ?_, ?_, fun _ => h1, ?_⟩
  · rw [← hW1, hrec, ← hB]; exact run_enterLoop_outer _ _ _ _ _
  · simp only [resolve, hg]
    simp [go_sem]
  · intro f' _; trivial
  · simp [invoke, go_sem, eg]
  have ends : ∀ {W : World} {j : Option Code}, BookA B rec .busy none W → (Instr.endRound (B + 1) j).run Tryd.prog W = .ok (.bool j.isNone) (W.putObj (B + 1) (.loop (rec (if j.isNone then .ready else .done) j))) := fun {W j} hb => by
    have := run_endRound (P := Tryd.prog) j hb.loop
    rw [hrec] at this ⊢
    exact this
  refine (hseq (B + 1) (fun pre W => I pre W ∧ BookA B rec .ready none W) W1 hO (lift.and (BookA.own _ (by omega))) ?_ ⟨hI1, book1⟩).mono ?_
  · rintro pre x W ⟨hi, hb⟩ hL
    have hy := run_yield (P := Tryd.prog) (args := encs x) hb.loop (by rw [hrec]; exact hps x)
    rw [hrec] at hy
    refine ⟨fn, _, assign, body, hy, roundIn_of_wpIn hfn (hassign _ x W _ ⟨_, run_beginRound hb.loop (by rw [hrec]), ?_⟩)⟩
    have eb : { rec .ready none with state := .busy } = rec .busy none := by rw [hrec]
    rw [eb]
    have hb2 := hb.put .busy none
    have hk2 : Kp W (W.putObj (B + 1) (.loop (rec .busy none))) := hKb _ _ _ _ hb.loop rfl
    refine wpIn_mono (hbody _ pre x _ (turn .busy none hi hb) hL) ?_
    rintro e a3 W3 hp
    cases e with
    | normal =>
      obtain ⟨hk, hkt, hi3⟩ := hp
      have hb3 := hb2.keep hk
      exact ⟨_, _, ends hb3, rfl, ⟨turn .ready none hi3 hb3, hb3.put .ready none⟩, hKt hk2 (hKt hkt (hKb _ _ _ _ hb3.loop rfl))⟩
    | exit id => exact hp.elim
    | ret => exact hp.elim
    | goto t => exact hp.elim
    | panic ch => exact hp.elim
    | outgrown => exact hp.elim
  · rintro e W2 ⟨⟨v, rfl⟩, xs, hf, hi, hb⟩
    have := run_endLoop (P := Tryd.prog) hb.loop (by rw [hrec]; simp)
    rw [hrec] at this
    exact ⟨none, _, this, hdone _ _ _ (by omega) hf (hI.putObj _ hi (by omega) hb.loop rfl) ((World.putObj_heap_other (by omega)).trans hb.defs)⟩
end

end Go.Proofs.YtipgbbhgmoehfaaDoor
