import Derived.RangeFuncBox
import Derived.RangeFuncBound
import Derived.OwnWalkIn
import Derived.TacticsInMore
import Derived.Shelf.Abstract
import Derived.RangeFuncCalls
import Derived.Shelf.RegionOpen
import Derived.Test.YtipgbbhgmoehfaaYC
/-
  The contract of copy.
-/
namespace Go.Proofs.Ytipgbbhgmoehfaa
open Go.RowKit
set_option linter.unusedSimpArgs false

namespace T
/-- The same tree in other blocks. -/
def Like : T → T → Prop
  | leaf, leaf => True
  | node _ l x t r, node _ l' x' t' r' => x = x' ∧ t = t' ∧ Like l l' ∧ Like r r'
  | _, _ => False
theorem Like.all {a b : T} (h : Like a b) : b.items = a.items ∧ b.sz = a.sz ∧ b.ds = a.ds ∧ b.ht = a.ht := by
  induction a generalizing b with
  | leaf => cases b with
    | leaf => exact ⟨rfl, rfl, rfl, rfl⟩
    | node => exact h.elim
  | node g l x t r ihl ihr => cases b with
    | leaf => exact h.elim
    | node g' l' x' t' r' =>
      obtain ⟨rfl, rfl, h1, h2⟩ := h
      obtain ⟨a1, a2, a3, a4⟩ := ihl h1
      obtain ⟨b1, b2, b3, b4⟩ := ihr h2
      refine ⟨?_, ?_, ?_, ?_⟩ <;> simp only [items, sz, ds, ht, a1, a2, a3, a4, b1, b2, b3, b4]
end T

/-- What a copy of a tree is. -/
def Copied (t : T) (w : World) (e : Ending) (w' : World) : Prop := ∃ t' : T, e = .returned t'.ptr ∧ t'.At w' ∧ T.Like t t' ∧ t'.blocks.Nodup ∧ (∀ k, k ∈ t'.blocks → w.heap.size ≤ k) ∧ Only [] w w'

/-- What the copy of a kid leaves, beside what lay when the copy of the node began (its new block is C). -/
def Kid (t : T) (w0 : World) (g C : Nat) (pl pr : Value) (W : World) (e : Ending) (w' : World) : Prop := ∃ t' : T, e = .returned t'.ptr ∧ t'.At w' ∧ T.Like t t' ∧ t'.blocks.Nodup ∧ (∀ k, k ∈ t'.blocks → W.heap.size ≤ k) ∧ Only [] w0 w' ∧ Only [] W w' ∧
  w'.cell? ⟨g, 0, none⟩ = some pl ∧ w'.cell? ⟨g, 1, none⟩ = some pr ∧ w'.cell? ⟨C, 0, none⟩ = some pl ∧ w'.cell? ⟨C, 1, none⟩ = some pr ∧ w'.frozen? ⟨C, 0, none⟩ = false ∧ w'.frozen? ⟨C, 1, none⟩ = false
/-- The end of a copy: both kids are copied. -/
theorem copy_fin {w w0 w2 : World} {l r l' r' : T} {x : Int} {u g : Nat} (h0 : Only [] w w0) (hsz : w0.heap.size = w.heap.size + 1) (hC : w0.heap[w.heap.size]? = some (.cells (T.cells l x u r ((u + l.sz + r.sz : Nat) : Int) ((1 + l.ds + r.ds : Nat) : Int) ((max l.ht r.ht + 1 : Nat) : Int)) 189 (0, 0)))
    (hO : Only [] w0 w2) (hl : l'.At w2) (hr : r'.At w2) (hll : T.Like l l') (hrr : T.Like r r') (hlN : l'.blocks.Nodup) (hrN : r'.blocks.Nodup) (hlB : ∀ k, k ∈ l'.blocks → w0.heap.size ≤ k) (hrB : ∀ k, k ∈ r'.blocks → w0.heap.size ≤ k)
    (hd : ∀ k, k ∈ l'.blocks → k ∉ r'.blocks) : Copied (.node g l x u r) w (.returned (.pointer (some ⟨w.heap.size, 0, none⟩))) ((w2.setCell ⟨w.heap.size, 0, none⟩ l'.ptr).setCell ⟨w.heap.size, 1, none⟩ r'.ptr) := by
  have hCl : w.heap.size ∉ l'.blocks := fun hm => by have := hlB _ hm; omega
  have hCr : w.heap.size ∉ r'.blocks := fun hm => by have := hrB _ hm; omega
  obtain ⟨a1, a2, a3, a4⟩ := hll.all
  obtain ⟨b1, b2, b3, b4⟩ := hrr.all
  have hC2 := (hO.block _ (heap_lt hC) (by simp)).trans hC
  refine ⟨.node w.heap.size l' x u r', rfl, ⟨?_, (hl.set _ hCl).set _ hCl, (hr.set _ hCr).set _ hCr⟩, ⟨rfl, rfl, hll, hrr⟩, ?_, ?_, ?_⟩
  · have := set_heap (i := 1) r'.ptr (set_heap (i := 0) l'.ptr hC2)
    rw [a2, a3, a4, b2, b3, b4]
    exact this
  · refine List.nodup_cons.2 ⟨fun hm => (List.mem_append.1 hm).elim hCl hCr, List.nodup_append.2 ⟨hlN, hrN, ?_⟩⟩
    rintro a ha b hb rfl
    exact hd a ha hb
  · intro k hk
    rcases List.mem_cons.1 hk with rfl | hk
    · exact Nat.le_refl _
    · rcases List.mem_append.1 hk with hk | hk
      · have := hlB k hk; omega
      · have := hrB k hk; omega
  · refine (h0.trans hO).to (((Only.refl [w.heap.size] w2).setCell (by simp) l'.ptr).setCell (by simp) r'.ptr) (fun i hi hlt => ?_)
    simp at hi; omega

end Go.Proofs.Ytipgbbhgmoehfaa

/-
  The iterator over a bag.
-/
namespace Go.Proofs.Ytipgbbhgmoehfaa
open Go.RowKit Go.Shelf
attribute [local go_sem] Oper.semAt_some
set_option linter.unusedSimpArgs false

theorem Only.grown {A B : World} (h : Only [] A B) : A.grownBy B none := ⟨h.os, h.tape, h.output, h.size, fun k hk _ => h.block k hk (by simp)⟩
theorem cell_lt {w : World} {a : Addr} {v : Value} (h : w.cell? a = some v) : a.block < w.heap.size := by
  unfold World.cell? at h
  by_cases hb : a.block < w.heap.size
  · exact hb
  · rw [Array.getElem?_eq_none (by omega)] at h
    simp at h
theorem room_wide' (k : Nat) : Fence.wide.room k := fun d h => by cases h
theorem RoundIn.anyDepth' {m m' : Nat} {P : Program} {l : Nat} {f : FuncId} {tmps : Array Value} {assign body : Code} {w : World} {R : Ending → World → Prop}
    (h : RoundIn Fence.wide m P l f tmps assign body w R) : RoundIn Fence.wide m' P l f tmps assign body w R := ⟨h.1, fun c cs _ => h.2 c cs (room_wide' _)⟩
theorem YieldAt.anyDepth' {m : Nat} (m' : Nat) {P : Program} {l : Nat} {args : Array Value} {W : World} {R : Ending → World → Prop} (h : YieldAt Fence.wide m P l args W R) : YieldAt Fence.wide m' P l args W R := by
  obtain ⟨fn, tmps, assign, body, hy, hR⟩ := h
  exact ⟨fn, tmps, assign, body, hy, RoundIn.anyDepth' hR⟩

/-- How a round ends: with a bool. -/
def Ends (R : Bool → World → Prop) (e : Ending) (w : World) : Prop := ∃ b, e = .returned (.bool b) ∧ R b w

theorem Walked.mono {J Jx : Items → World → Prop} {pre its : Items} {W : World} {e : Ending} {W' : World} (h : Walked J Jx pre its W e W') : (∃ v, e = .returned v) ∧ ((J (pre ++ its) W') ∨ (∃ q, q <+: its ∧ Jx (pre ++ q) W')) := by
  rcases h with ⟨rfl, hj, _⟩ | ⟨rfl, q, hq, hx⟩
  · exact ⟨⟨_, rfl⟩, .inl hj⟩
  · exact ⟨⟨_, rfl⟩, .inr ⟨q, hq, hx⟩⟩

/-- What tree returns of a pointer, from here on. -/
def TreeOf (W : World) (a : Option Addr) (t : T) : Prop := t.At W ∧ ∀ W1, Only [] W W1 → Calls Try.prog 133 #[.pointer a] W1 fun e w' => e = .returned t.ptr ∧ W1 = w'
theorem TreeOf.only {W W1 : World} {a : Option Addr} {t : T} (h : TreeOf W a t) (ho : Only [] W W1) : TreeOf W1 a t := ⟨h.1.only ho (fun _ _ hm => by simp at hm), fun W2 h2 => h.2 W2 (ho.trans h2)⟩
theorem Bag.treeOf {W : World} {B : Nat} {t : T} (h : Bag W B t) : TreeOf W (some ⟨B, 0, none⟩) t := ⟨h.tree, fun W1 ho => tree_any B t W1 (h.only ho (fun _ _ hm => by simp at hm)).head⟩

end Go.Proofs.Ytipgbbhgmoehfaa

/-
  A range over a function in the body of an iterator: the law, where the iterator's word on what a round keeps may speak of all loops' records but the law's own.
-/
namespace Go.Proofs.Ytipgbbhgmoehfaa
open Go.RowKit Go.Shelf
set_option linter.unusedSimpArgs false

/-- What a round of the loop with the record l keeps: the nodes and the yield functions' boxes; all records behind its own. -/
def KeepR (l : Nat) (W W' : World) : Prop := W.heap.size ≤ W'.heap.size ∧ ∀ (k : Nat) (o : Obj), l < k → W.heap[k]? = some o → o.isCells = false → W'.heap[k]? = some o
def KeepL (l : Nat) (W W' : World) : Prop := KeepT W W' ∧ KeepR l W W'
theorem KeepL.trans {l : Nat} {A B C : World} (h : KeepL l A B) (k : KeepL l B C) : KeepL l A C := ⟨h.1.trans k.1, Nat.le_trans h.2.1 k.2.1, fun i o hl hi hc => k.2.2 i o hl (h.2.2 i o hl hi hc) hc⟩
theorem keepR_trans {l : Nat} {A B C : World} (h : KeepR l A B) (k : KeepR l B C) : KeepR l A C := ⟨Nat.le_trans h.1 k.1, fun i o hl hi hc => k.2 i o hl (h.2 i o hl hi hc) hc⟩
theorem keepR_of {l : Nat} {A B : World} (h : KeepsOthers A B) : KeepR l A B := ⟨h.size, fun k o _ hk hc => h.same k o hk hc⟩
theorem keepT_put {W : World} {l : Nat} {o : Obj} (o' : Obj) (h : W.heap[l]? = some o) (hc : o.isCells = false) : KeepT W (W.putObj l o') := by
  intro k cs t _ hk
  have hne : k ≠ l := by
    rintro rfl
    rw [h] at hk
    cases hk
    simp [Obj.isCells] at hc
  rw [World.putObj_heap_other hne]
  exact hk
theorem KeepL.put {W : World} {l : Nat} {o : Obj} (o' : Obj) (h : W.heap[l]? = some o) (hc : o.isCells = false) : KeepL l W (W.putObj l o') :=
  ⟨keepT_put o' h hc, by simp, fun k o2 hl hk _ => (World.putObj_heap_other (by omega)).trans hk⟩

/-- The contract of an iterator over the numbers L that may itself range over another one. -/
def Iter (n : Nat) (gf : Nat) (lb : Array Value) (L : Items) (w : World) : Prop :=
  ∀ (l : Nat) (J Jx : Items → World → Prop) (W : World), Only [] w W → l < W.heap.size → OwnFrom W.heap.size J → OwnFrom W.heap.size Jx →
    (∀ (pre : Items) (x : Int × Nat) (W1 : World), J pre W1 → pre.length < L.length → YieldAt Fence.wide (n - 1) Try.prog l #[.int .i64 x.1, .int .i64 x.2] W1 fun e W' =>
      (e = .returned (.bool true) ∧ J (pre ++ [x]) W' ∧ KeepL l W1 W') ∨ (e = .returned (.bool false) ∧ Jx (pre ++ [x]) W' ∧ KeepR l W1 W')) →
    J [] W → CallsIn Fence.wide n Try.prog gf (#[.func (.yield l) #[] #[]] ++ lb) W fun e W' => (∃ v, e = .returned v) ∧ (J L W' ∨ ∃ pre, pre <+: L ∧ Jx pre W')

/-- How the body of a round may be left. -/
def roundEnd (I : Items → World → Prop) (Ix : Code → Items → World → Prop) (xs : Items) (W : World) : Exit → Act → World → Prop
  | .normal, _, W' => KeepsOthers W W' ∧ KeepT W W' ∧ I xs W'
  | .exit id, _, W' => KeepsOthers W W' ∧ Ix (.exit id) xs W'
  | .ret, _, W' => KeepsOthers W W' ∧ Ix .ret xs W'
  | _, _, _ => False

/-- The two blocks of a loop: its record, and the block for the rounds' deferred calls. -/
structure Book (B : Nat) (rec : LoopState → Option Code → Loop) (s : LoopState) (j : Option Code) (W : World) : Prop where
  loop : W.heap[B + 1]? = some (.loop (rec s j))
  defs : W.heap[B]? = some (.deferred (some []))
theorem Book.lt {B : Nat} {rec : LoopState → Option Code → Loop} {s : LoopState} {j : Option Code} {W : World} (h : Book B rec s j W) : B + 1 < W.heap.size := (Array.getElem?_eq_some_iff.1 h.loop).1
theorem Book.put {B : Nat} {rec : LoopState → Option Code → Loop} {s : LoopState} {j : Option Code} {W : World} (h : Book B rec s j W) (s' : LoopState) (j' : Option Code) : Book B rec s' j' (W.putObj (B + 1) (.loop (rec s' j'))) :=
  ⟨World.putObj_heap_same h.lt, (World.putObj_heap_other (by omega)).trans h.defs⟩
theorem Book.keep {B : Nat} {rec : LoopState → Option Code → Loop} {s : LoopState} {j : Option Code} {W W' : World} (h : Book B rec s j W) (k : KeepsOthers W W') : Book B rec s j W' := ⟨k.same _ _ h.loop rfl, k.same _ _ h.defs rfl⟩
theorem Book.own {B : Nat} {rec : LoopState → Option Code → Loop} {s : LoopState} {j : Option Code} (B1 : Nat) (hB : B + 1 < B1) : OwnFrom B1 (fun (_ : Items) W => Book B rec s j W) := fun _ W W' row h hg hr => by
  have hk : ∀ k, k ≤ B + 1 → some k ≠ row := fun k hk e => by have := (hr k e.symm).1; omega
  have h2 := h.lt
  exact ⟨(hg.block _ h2 (hk _ (Nat.le_refl _))).trans h.loop, (hg.block _ (by omega) (hk _ (by omega))).trans h.defs⟩

theorem range_iter {n : Nat} {g : Operand} {ps : Array Tmp} {assign body : Code} {Q : Exit → Act → World → Prop} {a : Act} {w : World} {gf : Nat} {lb : Array Value} {L : Items}
    (h1 : 1 ≤ n) (hg : a.eval g = .func (.func gf) #[] lb) (eg : ∀ args w, (callFunc gf args).run Try.prog w = .ok (.enter gf args) w) (hseq : Iter (n - 1) gf lb L w) (hps : ps.size = 2)
    (I : Items → World → Prop) (Ix : Code → Items → World → Prop) (hI : OwnFrom w.heap.size I) (hIx : ∀ c, OwnFrom w.heap.size (Ix c)) (h0 : I [] w) (a₁ : Int × Nat → Act)
    (hassign : ∀ (l : Nat) (x : Int × Nat) (W : World) (K : Act → World → Prop), K (a₁ x) W →
      assign.wpIn (Fence.wide.inRound l) (n - 1 - 1) Try.prog (Exit.then K (fun _ _ _ => False)) { tmps := (ps.zip #[.int .i64 x.1, .int .i64 (x.2 : Int)]).foldl (fun t (p, v) => t.setIfInBounds p v) a.tmps, defers := [] } W)
    (hbody : ∀ (l : Nat) (pre : Items) (x : Int × Nat) (W : World), I pre W → pre.length < L.length → body.wpIn (Fence.wide.inRound l) (n - 1 - 1) Try.prog (roundEnd I Ix (pre ++ [x]) W) (a₁ x) W)
    (hdone : ∀ (D : Nat) (W : World), w.heap.size ≤ D → I L W → W.heap[D]? = some (.deferred (some [])) → Q .normal { a with defers := { target := .collected D, args := #[] } :: a.defers } W)
    (hstop : ∀ (D : Nat) (c : Code) (pre : Items) (W : World), w.heap.size ≤ D → pre <+: L → Ix c pre W → W.heap[D]? = some (.deferred (some [])) → c.wpIn Fence.wide n Try.prog Q { a with defers := { target := .collected D, args := #[] } :: a.defers } W) :
    (Code.rangeFunc g ps assign body).wpIn Fence.wide n Try.prog Q a w := by
  refine wpIn_rangeFunc fun fn hfn => ?_
  rw [show Fence.wide.round = none from rfl]
  obtain ⟨rec, hrec⟩ : ∃ rec : LoopState → Option Code → Loop, rec = fun st pe => { state := st, pending := pe, fn, tmps := a.tmps, params := ps, assign, body, defers := w.heap.size } := ⟨_, rfl⟩
  obtain ⟨B, hB⟩ : ∃ B, w.heap.size = B := ⟨_, rfl⟩
  obtain ⟨W1, hW1⟩ : ∃ W1, (w.alloc (.deferred (some []))).alloc (.loop (rec .ready none)) = W1 := ⟨_, rfl⟩
  have hsz : W1.heap.size = B + 2 := by rw [← hW1, World.size_alloc, World.size_alloc, hB]
  have hO : Only [] w W1 := hW1 ▸ ((Only.refl [] w).alloc _).alloc _
  have book1 : Book B rec .ready none W1 := by
    refine ⟨?_, ?_⟩
    · have := World.alloc_heap_new (w.alloc (.deferred (some []))) (.loop (rec .ready none))
      rw [World.size_alloc, hB] at this
      rw [← hW1]; exact this
    · rw [← hW1, ← hB]; exact (Below.heap_alloc _ _ _ (by simp)).trans (World.alloc_heap_new w _)
  have hI1 : I [] W1 := by rw [← hW1]; exact hI.alloc _ (hI.alloc _ h0)
  have lift : ∀ {β : Type} {K : β → World → Prop}, OwnFrom w.heap.size K → OwnFrom W1.heap.size K := fun hK s A C row hs hg' hr => hK s A C row hs hg' fun r e => ⟨by have := (hr r e).1; omega, (hr r e).2⟩
  have turn : ∀ {β : Type} {K : β → World → Prop} {s : β} {W : World} {st : LoopState} {j : Option Code} (st' : LoopState) (j' : Option Code), OwnFrom w.heap.size K → K s W → Book B rec st j W → K s (W.putObj (B + 1) (.loop (rec st' j'))) := fun st' j' hK hs hb => hK.putObj _ hs (by omega) hb.loop rfl
  refine ⟨B + 1, [{ target := .collected B, args := #[] }], W1, { target := .fn (.func gf) lb, args := #[.func (.yield (B + 1)) #[] #[]] }, W1, gf, #[.func (.yield (B + 1)) #[] #[]] ++ lb, W1, ?_, ?_, ?_, ?_, fun _ => h1, ?_⟩
  · rw [← hW1, hrec, ← hB]; exact run_enterLoop_outer _ _ _ _ _
  · simp only [resolve, hg]
    simp [go_sem]
  · intro f' _; trivial
  · simp [invoke, go_sem, eg]
  have ends : ∀ {W : World} {j : Option Code}, Book B rec .busy none W → (Instr.endRound (B + 1) j).run Try.prog W = .ok (.bool j.isNone) (W.putObj (B + 1) (.loop (rec (if j.isNone then .ready else .done) j))) := fun {W j} hb => by
    have := run_endRound (P := Try.prog) j hb.loop
    rw [hrec] at this ⊢
    exact this
  refine (hseq (B + 1) (fun pre W => I pre W ∧ Book B rec .ready none W) (fun pre W => ∃ c, Ix c pre W ∧ Book B rec .done (some c) W) W1 hO (by omega) ((lift hI).and (Book.own _ (by omega)))
    (fun s A C row ⟨c, hc, hb⟩ hg' hr => ⟨c, lift (hIx c) s A C row hc hg' hr, Book.own _ (by omega) s A C row hb hg' hr⟩) ?_ ⟨hI1, book1⟩).mono ?_
  · rintro pre x W ⟨hi, hb⟩ hL
    have hy := run_yield (P := Try.prog) (args := #[.int .i64 x.1, .int .i64 (x.2 : Int)]) hb.loop (by rw [hrec]; exact hps.symm)
    rw [hrec] at hy
    refine ⟨fn, _, assign, body, hy, roundIn_of_wpIn hfn (hassign _ x W _ ⟨_, run_beginRound hb.loop (by rw [hrec]), ?_⟩)⟩
    have eb : { rec .ready none with state := .busy } = rec .busy none := by rw [hrec]
    rw [eb]
    have hb2 := hb.put .busy none
    have hk2 : KeepL (B + 1) W (W.putObj (B + 1) (.loop (rec .busy none))) := KeepL.put _ hb.loop rfl
    refine wpIn_mono (hbody _ pre x _ (turn .busy none hI hi hb) hL) ?_
    rintro e a3 W3 hp
    cases e with
    | normal =>
      obtain ⟨hk, hkt, hi3⟩ := hp
      have hb3 := hb2.keep hk
      exact ⟨_, _, ends hb3, .inl ⟨rfl, ⟨turn .ready none hI hi3 hb3, hb3.put .ready none⟩, hk2.trans (KeepL.trans ⟨hkt, hk.size, fun k o _ hko hc => hk.same k o hko hc⟩ (KeepL.put _ hb3.loop rfl))⟩⟩
    | exit id =>
      obtain ⟨hk, hi3⟩ := hp
      have hb3 := hb2.keep hk
      exact ⟨_, _, ends hb3, .inr ⟨rfl, ⟨.exit id, turn .done _ (hIx _) hi3 hb3, hb3.put .done _⟩, keepR_trans hk2.2 (keepR_trans (keepR_of hk) (KeepL.put _ hb3.loop rfl).2)⟩⟩
    | ret =>
      obtain ⟨hk, hi3⟩ := hp
      have hb3 := hb2.keep hk
      exact ⟨_, _, ends hb3, .inr ⟨rfl, ⟨.ret, turn .done _ (hIx _) hi3 hb3, hb3.put .done _⟩, keepR_trans hk2.2 (keepR_trans (keepR_of hk) (KeepL.put _ hb3.loop rfl).2)⟩⟩
    | goto t => exact hp.elim
    | panic ch => exact hp.elim
    | outgrown => exact hp.elim
  · rintro e W2 ⟨⟨v, rfl⟩, (⟨hi, hb⟩ | ⟨pre, hpre, c, hi, hb⟩)⟩
    · have := run_endLoop (P := Try.prog) hb.loop (by rw [hrec]; simp)
      rw [hrec] at this
      refine ⟨none, _, this, hdone _ _ (by omega) (hI.putObj _ hi (by omega) hb.loop rfl) ((World.putObj_heap_other (by omega)).trans hb.defs)⟩
    · have := run_endLoop (P := Try.prog) hb.loop (by rw [hrec]; simp)
      rw [hrec] at this
      refine ⟨some c, _, this, hstop _ c pre _ (by omega) hpre ((hIx c).putObj _ hi (by omega) hb.loop rfl) ((World.putObj_heap_other (by omega)).trans hb.defs)⟩

end Go.Proofs.Ytipgbbhgmoehfaa

/-
  A range over an iterator that does something of its own between two rounds: the law.
-/

namespace Go.Proofs.Ytipgbbhgmoehfaa
open Go.RowKit Go.Shelf
set_option linter.unusedSimpArgs false

/-- What a quiet step keeps: all blocks of cells, and all blocks below b. -/
structure KeepC (b : Nat) (W W' : World) : Prop where
  os : W'.os = W.os
  tape : W'.tape = W.tape
  output : W'.output = W.output
  size : W.heap.size ≤ W'.heap.size
  low : ∀ k, k < b → k < W.heap.size → W'.heap[k]? = W.heap[k]?
  cells : ∀ (k : Nat) (o : Obj), W.heap[k]? = some o → o.isCells = true → W'.heap[k]? = some o
theorem KeepC.of_only {b : Nat} {W W' : World} (h : Only [] W W') : KeepC b W W' :=
  ⟨h.os, h.tape, h.output, h.size, fun k _ hk => h.block k hk (by simp), fun k o hk _ => (h.block k (heap_lt hk) (by simp)).trans hk⟩
theorem KeepC.put {b : Nat} {W : World} {l : Nat} {o : Obj} (o' : Obj) (hl : b ≤ l) (h : W.heap[l]? = some o) (hc : o.isCells = false) : KeepC b W (W.putObj l o') := by
  refine ⟨rfl, rfl, rfl, by simp, fun k hk _ => World.putObj_heap_other (by omega), fun k o2 hk hc2 => ?_⟩
  have hne : k ≠ l := by
    rintro rfl
    rw [h] at hk
    cases hk
    rw [hc] at hc2
    cases hc2
  rw [World.putObj_heap_other hne]
  exact hk
theorem KeepC.onto {b : Nat} {w W W' : World} (h : Only [] w W) (k : KeepC b W W') (hb : w.heap.size ≤ b) : Only [] w W' :=
  ⟨k.os.trans h.os, k.tape.trans h.tape, k.output.trans h.output, Nat.le_trans h.size k.size, fun i hi hn => (k.low i (by omega) (Nat.lt_of_lt_of_le hi h.size)).trans (h.block i hi hn)⟩
/-- A record that abides quiet steps. -/
def Calm (b : Nat) (J : Nat → World → Prop) : Prop := ∀ j W W', J j W → KeepC b W W' → J j W'

/-- The contract of an iterator that goes over the numbers 0 .. m, and unites something behind each but the last. -/
def StepsIn (n gf : Nat) (lb : Array Value) (m : Nat) (Fact : Nat → World → Prop) (U : Nat → Array Value) : Prop :=
  ∀ (l : Nat) (J J' : Nat → World → Prop) (W : World), (∀ j W W', J j W → Only [] W W' → J j W') → (∀ j W W', J' j W → Only [] W W' → J' j W') →
    (∀ (j : Nat) (W1 : World), j ≤ m → J j W1 → YieldAt Fence.wide (n - 1) Try.prog l #[.int .i64 j] W1 fun e W' => e = .returned (.bool true) ∧ J' j W') →
    (∀ (j : Nat) (W1 : World), j < m → J' j W1 → Fact j W1) → (∀ W1, J' 0 W1 → Fact 0 W1) →
    (∀ (j : Nat) (W1 : World), j < m → J' j W1 → Calls Try.prog 58 (U j) W1 fun e w' => (∃ x y, e = .returned (.tuple #[x, y])) ∧ J (j + 1) w') →
    J 0 W → CallsIn Fence.wide n Try.prog gf (#[.func (.yield l) #[] #[]] ++ lb) W fun e W' => (∃ v, e = .returned v) ∧ J' m W'
/-- How the body of a round is left. -/
def stepEnd (I' : Nat → World → Prop) (j : Nat) (W : World) : Exit → Act → World → Prop
  | .normal, _, W' => KeepsOthers W W' ∧ I' j W'
  | _, _, _ => False

theorem range_steps {n : Nat} {g : Operand} {ps : Array Tmp} {assign body : Code} {Q : Exit → Act → World → Prop} {a : Act} {w : World} {gf : Nat} {lb : Array Value} {m : Nat} {Fact : Nat → World → Prop} {U : Nat → Array Value}
    (h1 : 1 ≤ n) (hg : a.eval g = .func (.func gf) #[] lb) (eg : ∀ args w, (callFunc gf args).run Try.prog w = .ok (.enter gf args) w) (hseq : StepsIn (n - 1) gf lb m Fact U) (hps : ps.size = 1)
    (I I' : Nat → World → Prop) (hI : Calm w.heap.size I) (hI' : Calm w.heap.size I') (h0 : I 0 w) (hF : ∀ j W, I' j W → Fact j W) (a₁ : Nat → Act)
    (hassign : ∀ (l j : Nat) (W : World) (K : Act → World → Prop), K (a₁ j) W →
      assign.wpIn (Fence.wide.inRound l) (n - 1 - 1) Try.prog (Exit.then K (fun _ _ _ => False)) { tmps := (ps.zip #[.int .i64 (j : Int)]).foldl (fun t (p, v) => t.setIfInBounds p v) a.tmps, defers := [] } W)
    (hbody : ∀ (l j : Nat) (W : World), I j W → j ≤ m → body.wpIn (Fence.wide.inRound l) (n - 1 - 1) Try.prog (stepEnd I' j W) (a₁ j) W)
    (hU : ∀ (j : Nat) (W : World), j < m → I' j W → Calls Try.prog 58 (U j) W fun e w' => (∃ x y, e = .returned (.tuple #[x, y])) ∧ I (j + 1) w' ∧ KeepsOthers W w')
    (hdone : ∀ (D : Nat) (W : World), w.heap.size ≤ D → I' m W → W.heap[D]? = some (.deferred (some [])) → Q .normal { a with defers := { target := .collected D, args := #[] } :: a.defers } W) :
    (Code.rangeFunc g ps assign body).wpIn Fence.wide n Try.prog Q a w := by
  refine wpIn_rangeFunc fun fn hfn => ?_
  rw [show Fence.wide.round = none from rfl]
  obtain ⟨rec, hrec⟩ : ∃ rec : LoopState → Option Code → Loop, rec = fun st pe => { state := st, pending := pe, fn, tmps := a.tmps, params := ps, assign, body, defers := w.heap.size } := ⟨_, rfl⟩
  obtain ⟨B, hB⟩ : ∃ B, w.heap.size = B := ⟨_, rfl⟩
  obtain ⟨W1, hW1⟩ : ∃ W1, (w.alloc (.deferred (some []))).alloc (.loop (rec .ready none)) = W1 := ⟨_, rfl⟩
  have hO : Only [] w W1 := hW1 ▸ ((Only.refl [] w).alloc _).alloc _
  have book1 : Book B rec .ready none W1 := by
    refine ⟨?_, ?_⟩
    · have := World.alloc_heap_new (w.alloc (.deferred (some []))) (.loop (rec .ready none))
      rw [World.size_alloc, hB] at this
      rw [← hW1]; exact this
    · rw [← hW1, ← hB]; exact (Below.heap_alloc _ _ _ (by simp)).trans (World.alloc_heap_new w _)
  have hI1 : I 0 W1 := hI 0 w W1 h0 (KeepC.of_only hO)
  have turn : ∀ {K : Nat → World → Prop} {j : Nat} {W : World} {st : LoopState} {c : Option Code} (st' : LoopState) (c' : Option Code), Calm w.heap.size K → K j W → Book B rec st c W → K j (W.putObj (B + 1) (.loop (rec st' c'))) := fun st' c' hK hs hb => hK _ _ _ hs (KeepC.put _ (by omega) hb.loop rfl)
  have bookO : ∀ {W W' : World}, Book B rec .ready none W → Only [] W W' → Book B rec .ready none W' := fun hb ho => ⟨(ho.block _ hb.lt (by simp)).trans hb.loop, (ho.block _ (by have := hb.lt; omega) (by simp)).trans hb.defs⟩
  refine ⟨B + 1, [{ target := .collected B, args := #[] }], W1, { target := .fn (.func gf) lb, args := #[.func (.yield (B + 1)) #[] #[]] }, W1, gf, #[.func (.yield (B + 1)) #[] #[]] ++ lb, W1, ?_, ?_, ?_, ?_, fun _ => h1, ?_⟩
  · rw [← hW1, hrec, ← hB]; exact run_enterLoop_outer _ _ _ _ _
  · simp only [resolve, hg]
    simp [go_sem]
  · intro f' _; trivial
  · simp [invoke, go_sem, eg]
  have ends : ∀ {W : World} {j : Option Code}, Book B rec .busy none W → (Instr.endRound (B + 1) j).run Try.prog W = .ok (.bool j.isNone) (W.putObj (B + 1) (.loop (rec (if j.isNone then .ready else .done) j))) := fun {W j} hb => by
    have := run_endRound (P := Try.prog) j hb.loop
    rw [hrec] at this ⊢
    exact this
  refine (hseq (B + 1) (fun j W => I j W ∧ Book B rec .ready none W) (fun j W => I' j W ∧ Book B rec .ready none W) W1 (fun j W W' h o => ⟨hI j W W' h.1 (KeepC.of_only o), bookO h.2 o⟩) (fun j W W' h o => ⟨hI' j W W' h.1 (KeepC.of_only o), bookO h.2 o⟩) ?_ (fun j W _ h => hF j W h.1) (fun W h => hF 0 W h.1)
    (fun j W hj h => (hU j W hj h.1).mono fun e w' ⟨h1, h2, h3⟩ => ⟨h1, h2, h.2.keep h3⟩) ⟨hI1, book1⟩).mono ?_
  · rintro j W hj ⟨hi, hb⟩
    have hy := run_yield (P := Try.prog) (args := #[.int .i64 (j : Int)]) hb.loop (by rw [hrec]; exact hps.symm)
    rw [hrec] at hy
    refine ⟨fn, _, assign, body, hy, roundIn_of_wpIn hfn (hassign _ j W _ ⟨_, run_beginRound hb.loop (by rw [hrec]), ?_⟩)⟩
    have eb : { rec .ready none with state := .busy } = rec .busy none := by rw [hrec]
    rw [eb]
    have hb2 := hb.put .busy none
    refine wpIn_mono (hbody _ j _ (turn .busy none hI hi hb) hj) ?_
    rintro e a3 W3 hp
    cases e with
    | normal =>
      obtain ⟨hk, hi3⟩ := hp
      have hb3 := hb2.keep hk
      exact ⟨_, _, ends hb3, rfl, turn .ready none hI' hi3 hb3, hb3.put .ready none⟩
    | exit id => exact hp.elim
    | ret => exact hp.elim
    | goto t => exact hp.elim
    | panic ch => exact hp.elim
    | outgrown => exact hp.elim
  · rintro e W2 ⟨⟨v, rfl⟩, hi, hb⟩
    have := run_endLoop (P := Try.prog) hb.loop (by rw [hrec]; simp)
    rw [hrec] at this
    refine ⟨none, _, this, hdone _ _ (by omega) (hI' _ _ _ hi (KeepC.put _ (by omega) hb.loop rfl)) ((World.putObj_heap_other (by omega)).trans hb.defs)⟩

end Go.Proofs.Ytipgbbhgmoehfaa
