import Derived.StillTailTactics
import Derived.Laws.AppendOwn
import Derived.Lib.SliceRun
import Derived.Shelf.RegionOpenPlain
import Derived.Deep.RegionHeld3
import Derived.Test.YtipgbbhgmoehfaaDoorYF
import Derived.Test.YtipgbbhgmoehfaaDoorYD
/-
  Union of a tally.
-/
namespace Go.Proofs.YtipgbbhgmoehfaaDoor
open Go.RowKit
set_option linter.unusedSimpArgs false
set_option linter.unusedSectionVars false

theorem cells_keep {W W' : World} {gs : List Nat} (ho : Only gs W W') {a : Addr} {v : Value} (hc : W.cell? a = some v) (hn : a.block ∉ gs) : W'.cell? a = some v := by
  rw [World.cell?_of_block (w := W) (ho.block _ (cell_lt' hc) hn)]; exact hc

/-- What a union leaves: the blocks of the new state are old ones or new. -/
def Grew (w : World) (F F' : List Nat) : Prop := ∀ k, k ∈ F' → k ∈ F ∨ w.heap.size ≤ k

section
end

end Go.Proofs.YtipgbbhgmoehfaaDoor

/-
  Union of a tally: same sets, no elements; the contracts.
-/
namespace Go.Proofs.YtipgbbhgmoehfaaDoor
open Go.RowKit
set_option linter.unusedSimpArgs false
set_option linter.unusedSectionVars false

section
end

end Go.Proofs.YtipgbbhgmoehfaaDoor

/-
  Clones of rows.
-/
namespace Go.Proofs.YtipgbbhgmoehfaaDoor
open Go.RowKit
set_option linter.unusedSimpArgs false
set_option linter.unusedSectionVars false

theorem infoI : ∃ i, Tryd.prog.info? 3 = some i ∧ i.zero = some (.int .i64 0) ∧ i.size = 1 ∧ i.bytes = 8 := by
  have h := infoInt
  cases e : Tryd.prog.info? 3 with
  | none => rw [e] at h; cases h
  | some i => rw [e] at h; simp at h; exact ⟨i, rfl, h.1, h.2.1, h.2.2⟩
theorem infoInt64 : (Tryd.prog.info? 2).map (fun i => (i.zero, i.size, i.bytes)) = some (some (.int .i64 0), 1, 8) := by kernel_rfl
theorem infoI64 : ∃ i, Tryd.prog.info? 2 = some i ∧ i.zero = some (.int .i64 0) ∧ i.size = 1 ∧ i.bytes = 8 := by
  have h := infoInt64
  cases e : Tryd.prog.info? 2 with
  | none => rw [e] at h; cases h
  | some i => rw [e] at h; simp at h; exact ⟨i, rfl, h.1, h.2.1, h.2.2⟩
theorem only_of_below' {w w' : World} (h : Below w.heap.size w w') : Only [] w w' := ⟨h.os, h.tape, h.output, h.size, fun k hk _ => h.block k hk⟩
theorem row_of_owns {w : World} {base n : Nat} {t : TypeId} {v : Value} {f : Nat → Value} {xs : List Value} (h : w.ownsRow base t 1 v n xs) (hv : v ≠ .slice none 0 0) (hx : ∀ i, i < n → xs[i]? = some (f i)) :
    ∃ g c, v = .slice (some ⟨g, 0, none⟩) n c ∧ base ≤ g ∧ RowGe w g t n f := by
  obtain ⟨hl, h | ⟨g, cap, cur, e, hg, hh, hn, _, hs, ht⟩⟩ := h
  · exact absurd h.1 hv
  · refine ⟨g, cap, e, hg, cur, hh, fun i hi => ?_⟩
    have := hx i hi
    rw [← ht, List.getElem?_take] at this
    rw [if_pos (by omega)] at this
    simpa using this

set_option maxRecDepth 100000 in
set_option maxHeartbeats 2000000 in
theorem Clone_int (g n c : Nat) (f : Nat → Nat) (w : World) (h : Row w g n f) (hn : n ≤ 65536) : Calls Tryd.prog 60 #[.slice (some ⟨g, 0, none⟩) n c] w fun e w' => ∃ g' c', e = .returned (.slice (some ⟨g', 0, none⟩) n c') ∧ Row w' g' n f ∧ w.heap.size ≤ g' ∧ Only [] w w' := by
  obtain ⟨i0, hi, hz0, hz1, hz2⟩ := infoI
  have q : ∀ (w : World) (a : Option Addr) (n c n' c' : Nat), (binOp .eql 31 (.slice a n c) (.slice none n' c')).run Tryd.prog w = .ok (.bool a.isNone) w := fun w a n c n' c' => Lib.run_eql_slice_nil w _ _ a n c n' c' Tryd.underlying31
  have u : ∀ w, Sem.run Tryd.prog (underlying 31) w = .ok (TypeDesc.slice 3) w := run_underlying Tryd.underlying31
  have HR := Lib.hid h
  clear h
  go_enter Tryd.func60, Tryd.ntmps60
  go_wp2_with (at_builtin; refine wpList_append_own _ rfl _ _ 31 rfl w.heap.size 3 i0 (.int .i64 0) 1 8 Tryd.underlying31 hi hz0 hz1 hz2 rfl (by decide) _ _ _ rfl (World.ownsRow_made w #[] 0 (Nat.le_refl _) (Nat.zero_le _) rfl) ⟨g, 0, none⟩ n c ((List.range n).map fun i => .int .i64 (f i)) rfl ?qc1 ?qc2 ?qc3 ?qc4 ?qc5 ?qc6 ?_)
  case qc1 => simp
  case qc2 =>
    intro j u hj
    have hjn : j < n := by
      have := (List.getElem?_eq_some_iff.1 hj).1
      simpa using this
    rw [Addr.add_lit]
    refine Lib.cell?_alloc_some _ ?_
    rw [Nat.zero_add, HR.out.cell hjn]
    have e : ((List.range n).map fun i => Value.int .i64 (f i : Int))[j]? = some (Value.int .i64 (f j : Int)) := by simp [hjn]
    rw [e] at hj
    exact hj
  case qc3 => intro u hu; obtain ⟨x, _, rfl⟩ := List.mem_map.1 hu; rfl
  case qc4 => unfold maxLen; omega
  case qc5 => omega
  case qc6 => simp
  intro v' w1 hown hgrow hnil
  go_wp2
  go_ret
  obtain ⟨g', c', hv, hg', hr⟩ := row_of_owns (f := fun i => Value.int .i64 (f i : Int)) (n := n) (by simpa using hown) (by simpa using hnil) (fun i hi => by simp [hi])
  refine ⟨g', c', by rw [hv]; rfl, hr, hg', ?_⟩
  exact only_of_below' (((Below.refl _ w).alloc (Nat.le_refl _) _).grown hgrow (by simp) (by intro k hk; simp [Value.ownBlock] at hk; omega))

/-- The partition of a copy lies in rows with the same numbers. -/
theorem Dsu.copied {w w4 : World} {S U L Z n : Nat} {lab up rt d least size : Nat → Nat} {cu cl cz : Nat} (h : Dsu w S U L Z n lab up rt d least size cu cl cz) {S' U' L' Z' cu' cl' cz' : Nat}
    (hS : w4.heap[S']? = some (.cells (setsCells S' U' L' Z' n cu' cl' cz' (many n fun a => lab a == a)) 109 (0, 0))) (hU : Row w4 U' n up) (hL : Row w4 L' n least) (hZ : Row w4 Z' n size) (u1 : U' ≠ L') (u2 : U' ≠ Z') (u3 : L' ≠ Z') :
    Dsu w4 S' U' L' Z' n lab up rt d least size cu' cl' cz' := ⟨hS, hU, hL, hZ, u1, u2, u3, h.forest, h.bound, h.labE, h.leastE, h.lowE, h.sizeE⟩

/-- What is held while a partition is copied. -/
def CopyS (w : World) (S U L Z n cu cl cz : Nat) (m : Int) (W : World) : Prop := W.cell? ⟨S, 1, none⟩ = some (.slice (some ⟨U, 0, none⟩) n cu) ∧ W.cell? ⟨S, 2, none⟩ = some (.slice (some ⟨L, 0, none⟩) n cl) ∧ W.cell? ⟨S, 3, none⟩ = some (.slice (some ⟨Z, 0, none⟩) n cz) ∧ W.cell? ⟨S, 4, none⟩ = some (.int .i64 m) ∧ Only [] w W
theorem CopyS.step {w W W' : World} {S U L Z n cu cl cz : Nat} {m : Int} (h : CopyS w S U L Z n cu cl cz m W) (o : Only [] W W') : CopyS w S U L Z n cu cl cz m W' :=
  ⟨cells_keep o h.1 (by simp), cells_keep o h.2.1 (by simp), cells_keep o h.2.2.1 (by simp), cells_keep o h.2.2.2.1 (by simp), h.2.2.2.2.trans o⟩
theorem cloned {w W : World} {S U L Z n cu cl cz g c : Nat} {m : Int} {f : Nat → Nat} (hn : n ≤ 65536) (hr : Row w g n f) (h : CopyS w S U L Z n cu cl cz m W) : Calls Tryd.prog 60 #[.slice (some ⟨g, 0, none⟩) n c] W fun e w' =>
    (∃ g' c', e = .returned (.slice (some ⟨g', 0, none⟩) n c') ∧ Hid (Row w' g' n f ∧ W.heap.size ≤ g' ∧ Only [] W w')) ∧ CopyS w S U L Z n cu cl cz m w' :=
  (Clone_int g n c f W (hr.only h.2.2.2.2 (by simp)) hn).mono fun _ _ ⟨g', c', he, h1, h2, h3⟩ => ⟨⟨g', c', he, Lib.hid ⟨h1, h2, h3⟩⟩, h.step h3⟩

end Go.Proofs.YtipgbbhgmoehfaaDoor

/-
  The contract of Copy of a tally.
-/
namespace Go.Proofs.YtipgbbhgmoehfaaDoor
open Go.RowKit
set_option linter.unusedSimpArgs false
set_option linter.unusedSectionVars false

/-- What is held while a tally is copied. -/
def TCopyS (w : World) (A S G B n cg : Nat) (W : World) : Prop := W.cell? ⟨A, 1, none⟩ = some (.pointer (some ⟨S, 0, none⟩)) ∧ W.cell? ⟨A, 2, none⟩ = some (.slice (some ⟨G, 0, none⟩) n cg) ∧ W.cell? ⟨A, 3, none⟩ = some (.pointer (some ⟨B, 0, none⟩)) ∧ Only [] w W
theorem TCopyS.step {w W W' : World} {A S G B n cg : Nat} (h : TCopyS w A S G B n cg W) (o : Only [] W W') : TCopyS w A S G B n cg W' :=
  ⟨cells_keep o h.1 (by simp), cells_keep o h.2.1 (by simp), cells_keep o h.2.2.1 (by simp), h.2.2.2.trans o⟩
theorem DsuAt.nodup {W : World} {F : List Nat} {S n : Nat} {lab : Nat → Nat} (h : DsuAt W F S n lab) : F.Nodup := by
  obtain ⟨U, L, Z, up, rt, d, least, size, cu, cl, cz, rfl, h⟩ := h
  obtain ⟨a, b, c⟩ := h.suz
  have := h.ul
  have := h.uz
  have := h.lz
  simp [*]

end Go.Proofs.YtipgbbhgmoehfaaDoor
