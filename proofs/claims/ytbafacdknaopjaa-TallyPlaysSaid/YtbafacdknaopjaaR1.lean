/-
  A range over a function in the body of an iterator: the law, where the iterator's word on what a round keeps may speak of all loops' records but the law's own.
-/
import Derived.Test.YtbafacdknaopjaaA17
namespace Go.Proofs.Ytbafacdknaopjaa
open Go.RowKit Go.Shelf
set_option linter.unusedSimpArgs false

/-- What a round of the loop with the record l keeps: the nodes and the yield functions' boxes; all records behind its own. -/
def KeepR (l : Nat) (W W' : World) : Prop := W.heap.size ≤ W'.heap.size ∧ ∀ (k : Nat) (o : Obj), l < k → W.heap[k]? = some o → o.isCells = false → W'.heap[k]? = some o
def KeepL (l : Nat) (W W' : World) : Prop := KeepT W W' ∧ KeepR l W W'
theorem KeepL.trans {l : Nat} {A B C : World} (h : KeepL l A B) (k : KeepL l B C) : KeepL l A C := ⟨h.1.trans k.1, Nat.le_trans h.2.1 k.2.1, fun i o hl hi hc => k.2.2 i o hl (h.2.2 i o hl hi hc) hc⟩
theorem keepR_trans {l : Nat} {A B C : World} (h : KeepR l A B) (k : KeepR l B C) : KeepR l A C := ⟨Nat.le_trans h.1 k.1, fun i o hl hi hc => k.2 i o hl (h.2 i o hl hi hc) hc⟩
theorem keepR_of {l : Nat} {A B : World} (h : KeepsOthers A B) : KeepR l A B := ⟨h.size, fun k o _ hk hc => h.same k o hk hc⟩
theorem keepT_put {W : World} {l : Nat} {o : Obj} (o' : Obj) (h : W.heap[l]? = some o) (hc : o.isCells = false) : KeepT W (W.putObj l o') := by
  intro k cs t _ hk
  have hne : k ≠ l := by
    rintro rfl
    rw [h] at hk
    cases hk
    simp [Obj.isCells] at hc
  rw [World.putObj_heap_other hne]
  exact hk
theorem KeepL.put {W : World} {l : Nat} {o : Obj} (o' : Obj) (h : W.heap[l]? = some o) (hc : o.isCells = false) : KeepL l W (W.putObj l o') :=
  ⟨keepT_put o' h hc, by simp, fun k o2 hl hk _ => (World.putObj_heap_other (by omega)).trans hk⟩

/-- The contract of an iterator over the numbers L that may itself range over another one. -/
def Iter (n : Nat) (gf : Nat) (lb : Array Value) (L : Items) (w : World) : Prop :=
  ∀ (l : Nat) (J Jx : Items → World → Prop) (W : World), Only [] w W → l < W.heap.size → OwnFrom W.heap.size J → OwnFrom W.heap.size Jx →
    (∀ (pre : Items) (x : Int × Nat) (W1 : World), J pre W1 → pre.length < L.length → YieldAt Fence.wide (n - 1) Try.prog l #[.int .i64 x.1, .int .i64 x.2] W1 fun e W' =>
      (e = .returned (.bool true) ∧ J (pre ++ [x]) W' ∧ KeepL l W1 W') ∨ (e = .returned (.bool false) ∧ Jx (pre ++ [x]) W' ∧ KeepR l W1 W')) →
    J [] W → CallsIn Fence.wide n Try.prog gf (#[.func (.yield l) #[] #[]] ++ lb) W fun e W' => (∃ v, e = .returned v) ∧ (J L W' ∨ ∃ pre, pre <+: L ∧ Jx pre W')

/-- How the body of a round may be left. -/
def roundEnd (I : Items → World → Prop) (Ix : Code → Items → World → Prop) (xs : Items) (W : World) : Exit → Act → World → Prop
  | .normal, _, W' => KeepsOthers W W' ∧ KeepT W W' ∧ I xs W'
  | .exit id, _, W' => KeepsOthers W W' ∧ Ix (.exit id) xs W'
  | .ret, _, W' => KeepsOthers W W' ∧ Ix .ret xs W'
  | _, _, _ => False

/-- The two blocks of a loop: its record, and the block for the rounds' deferred calls. -/
structure Book (B : Nat) (rec : LoopState → Option Code → Loop) (s : LoopState) (j : Option Code) (W : World) : Prop where
  loop : W.heap[B + 1]? = some (.loop (rec s j))
  defs : W.heap[B]? = some (.deferred (some []))
theorem Book.lt {B : Nat} {rec : LoopState → Option Code → Loop} {s : LoopState} {j : Option Code} {W : World} (h : Book B rec s j W) : B + 1 < W.heap.size := (Array.getElem?_eq_some_iff.1 h.loop).1
theorem Book.put {B : Nat} {rec : LoopState → Option Code → Loop} {s : LoopState} {j : Option Code} {W : World} (h : Book B rec s j W) (s' : LoopState) (j' : Option Code) : Book B rec s' j' (W.putObj (B + 1) (.loop (rec s' j'))) :=
  ⟨World.putObj_heap_same h.lt, (World.putObj_heap_other (by omega)).trans h.defs⟩
theorem Book.keep {B : Nat} {rec : LoopState → Option Code → Loop} {s : LoopState} {j : Option Code} {W W' : World} (h : Book B rec s j W) (k : KeepsOthers W W') : Book B rec s j W' := ⟨k.same _ _ h.loop rfl, k.same _ _ h.defs rfl⟩
theorem Book.own {B : Nat} {rec : LoopState → Option Code → Loop} {s : LoopState} {j : Option Code} (B1 : Nat) (hB : B + 1 < B1) : OwnFrom B1 (fun (_ : Items) W => Book B rec s j W) := fun _ W W' row h hg hr => by
  have hk : ∀ k, k ≤ B + 1 → some k ≠ row := fun k hk e => by have := (hr k e.symm).1; omega
  have h2 := h.lt
  exact ⟨(hg.block _ h2 (hk _ (Nat.le_refl _))).trans h.loop, (hg.block _ (by omega) (hk _ (by omega))).trans h.defs⟩

theorem range_iter {n : Nat} {g : Operand} {ps : Array Tmp} {assign body : Code} {Q : Exit → Act → World → Prop} {a : Act} {w : World} {gf : Nat} {lb : Array Value} {L : Items}
    (h1 : 1 ≤ n) (hg : a.eval g = .func (.func gf) #[] lb) (eg : ∀ args w, (callFunc gf args).run Try.prog w = .ok (.enter gf args) w) (hseq : Iter (n - 1) gf lb L w) (hps : ps.size = 2)
    (I : Items → World → Prop) (Ix : Code → Items → World → Prop) (hI : OwnFrom w.heap.size I) (hIx : ∀ c, OwnFrom w.heap.size (Ix c)) (h0 : I [] w) (a₁ : Int × Nat → Act)
    (hassign : ∀ (l : Nat) (x : Int × Nat) (W : World) (K : Act → World → Prop), K (a₁ x) W →
      assign.wpIn (Fence.wide.inRound l) (n - 1 - 1) Try.prog (Exit.then K (fun _ _ _ => False)) { tmps := (ps.zip #[.int .i64 x.1, .int .i64 (x.2 : Int)]).foldl (fun t (p, v) => t.setIfInBounds p v) a.tmps, defers := [] } W)
    (hbody : ∀ (l : Nat) (pre : Items) (x : Int × Nat) (W : World), I pre W → pre.length < L.length → body.wpIn (Fence.wide.inRound l) (n - 1 - 1) Try.prog (roundEnd I Ix (pre ++ [x]) W) (a₁ x) W)
    (hdone : ∀ (D : Nat) (W : World), w.heap.size ≤ D → I L W → W.heap[D]? = some (.deferred (some [])) → Q .normal { a with defers := { target := .collected D, args := #[] } :: a.defers } W)
    (hstop : ∀ (D : Nat) (c : Code) (pre : Items) (W : World), w.heap.size ≤ D → pre <+: L → Ix c pre W → W.heap[D]? = some (.deferred (some [])) → c.wpIn Fence.wide n Try.prog Q { a with defers := { target := .collected D, args := #[] } :: a.defers } W) :
    (Code.rangeFunc g ps assign body).wpIn Fence.wide n Try.prog Q a w := by
  refine wpIn_rangeFunc fun fn hfn => ?_
  rw [show Fence.wide.round = none from rfl]
  obtain ⟨rec, hrec⟩ : ∃ rec : LoopState → Option Code → Loop, rec = fun st pe => { state := st, pending := pe, fn, tmps := a.tmps, params := ps, assign, body, defers := w.heap.size } := ⟨_, rfl⟩
  obtain ⟨B, hB⟩ : ∃ B, w.heap.size = B := ⟨_, rfl⟩
  obtain ⟨W1, hW1⟩ : ∃ W1, (w.alloc (.deferred (some []))).alloc (.loop (rec .ready none)) = W1 := ⟨_, rfl⟩
  have hsz : W1.heap.size = B + 2 := by rw [← hW1, World.size_alloc, World.size_alloc, hB]
  have hO : Only [] w W1 := hW1 ▸ ((Only.refl [] w).alloc _).alloc _
  have book1 : Book B rec .ready none W1 := by
    refine ⟨?_, ?_⟩
    · have := World.alloc_heap_new (w.alloc (.deferred (some []))) (.loop (rec .ready none))
      rw [World.size_alloc, hB] at this
      rw [← hW1]; exact this
    · rw [← hW1, ← hB]; exact (Below.heap_alloc _ _ _ (by simp)).trans (World.alloc_heap_new w _)
  have hI1 : I [] W1 := by rw [← hW1]; exact hI.alloc _ (hI.alloc _ h0)
  have lift : ∀ {β : Type} {K : β → World → Prop}, OwnFrom w.heap.size K → OwnFrom W1.heap.size K := fun hK s A C row hs hg' hr => hK s A C row hs hg' fun r e => ⟨by have := (hr r e).1; omega, (hr r e).2⟩
  have turn : ∀ {β : Type} {K : β → World → Prop} {s : β} {W : World} {st : LoopState} {j : Option Code} (st' : LoopState) (j' : Option Code), OwnFrom w.heap.size K → K s W → Book B rec st j W → K s (W.putObj (B + 1) (.loop (rec st' j'))) := fun st' j' hK hs hb => hK.putObj _ hs (by omega) hb.loop rfl
  refine ⟨B + 1, [{ target := .collected B, args := #[] }], W1, { target := .fn (.func gf) lb, args := #[.func (.yield (B + 1)) #[] #[]] }, W1, gf, #[.func (.yield (B + 1)) #[] #[]] ++ lb, W1, ?_, ?_, ?_, ?_, fun _ => h1, ?_⟩
  · rw [← hW1, hrec, ← hB]; exact run_enterLoop_outer _ _ _ _ _
  · simp only [resolve, hg]
    simp [go_sem]
  · intro f' _; trivial
  · simp [invoke, go_sem, eg]
  have ends : ∀ {W : World} {j : Option Code}, Book B rec .busy none W → (Instr.endRound (B + 1) j).run Try.prog W = .ok (.bool j.isNone) (W.putObj (B + 1) (.loop (rec (if j.isNone then .ready else .done) j))) := fun {W j} hb => by
    have := run_endRound (P := Try.prog) j hb.loop
    rw [hrec] at this ⊢
    exact this
  refine (hseq (B + 1) (fun pre W => I pre W ∧ Book B rec .ready none W) (fun pre W => ∃ c, Ix c pre W ∧ Book B rec .done (some c) W) W1 hO (by omega) ((lift hI).and (Book.own _ (by omega)))
    (fun s A C row ⟨c, hc, hb⟩ hg' hr => ⟨c, lift (hIx c) s A C row hc hg' hr, Book.own _ (by omega) s A C row hb hg' hr⟩) ?_ ⟨hI1, book1⟩).mono ?_
  · rintro pre x W ⟨hi, hb⟩ hL
    have hy := run_yield (P := Try.prog) (args := #[.int .i64 x.1, .int .i64 (x.2 : Int)]) hb.loop (by rw [hrec]; exact hps.symm)
    rw [hrec] at hy
    refine ⟨fn, _, assign, body, hy, roundIn_of_wpIn hfn (hassign _ x W _ ⟨_, run_beginRound hb.loop (by rw [hrec]), ?_⟩)⟩
    have eb : { rec .ready none with state := .busy } = rec .busy none := by rw [hrec]
    rw [eb]
    have hb2 := hb.put .busy none
    have hk2 : KeepL (B + 1) W (W.putObj (B + 1) (.loop (rec .busy none))) := KeepL.put _ hb.loop rfl
    refine wpIn_mono (hbody _ pre x _ (turn .busy none hI hi hb) hL) ?_
    rintro e a3 W3 hp
    cases e with
    | normal =>
      obtain ⟨hk, hkt, hi3⟩ := hp
      have hb3 := hb2.keep hk
      exact ⟨_, _, ends hb3, .inl ⟨rfl, ⟨turn .ready none hI hi3 hb3, hb3.put .ready none⟩, hk2.trans (KeepL.trans ⟨hkt, hk.size, fun k o _ hko hc => hk.same k o hko hc⟩ (KeepL.put _ hb3.loop rfl))⟩⟩
    | exit id =>
      obtain ⟨hk, hi3⟩ := hp
      have hb3 := hb2.keep hk
      exact ⟨_, _, ends hb3, .inr ⟨rfl, ⟨.exit id, turn .done _ (hIx _) hi3 hb3, hb3.put .done _⟩, keepR_trans hk2.2 (keepR_trans (keepR_of hk) (KeepL.put _ hb3.loop rfl).2)⟩⟩
    | ret =>
      obtain ⟨hk, hi3⟩ := hp
      have hb3 := hb2.keep hk
      exact ⟨_, _, ends hb3, .inr ⟨rfl, ⟨.ret, turn .done _ (hIx _) hi3 hb3, hb3.put .done _⟩, keepR_trans hk2.2 (keepR_trans (keepR_of hk) (KeepL.put _ hb3.loop rfl).2)⟩⟩
    | goto t => exact hp.elim
    | panic ch => exact hp.elim
    | outgrown => exact hp.elim
  · rintro e W2 ⟨⟨v, rfl⟩, (⟨hi, hb⟩ | ⟨pre, hpre, c, hi, hb⟩)⟩
    · have := run_endLoop (P := Try.prog) hb.loop (by rw [hrec]; simp)
      rw [hrec] at this
      refine ⟨none, _, this, hdone _ _ (by omega) (hI.putObj _ hi (by omega) hb.loop rfl) ((World.putObj_heap_other (by omega)).trans hb.defs)⟩
    · have := run_endLoop (P := Try.prog) hb.loop (by rw [hrec]; simp)
      rw [hrec] at this
      refine ⟨some c, _, this, hstop _ c pre _ (by omega) hpre ((hIx c).putObj _ hi (by omega) hb.loop rfl) ((World.putObj_heap_other (by omega)).trans hb.defs)⟩
end Go.Proofs.Ytbafacdknaopjaa
