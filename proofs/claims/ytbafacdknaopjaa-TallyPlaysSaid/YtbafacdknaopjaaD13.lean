/-
  Clones of rows.
-/
import Derived.Test.YtbafacdknaopjaaD12
import Derived.Laws.AppendOwn
import Derived.Lib.SliceRun
import Derived.Shelf.RegionOpenPlain
import Derived.Deep.RegionHeld3
namespace Go.Proofs.Ytbafacdknaopjaa
open Go.RowKit
set_option linter.unusedSimpArgs false
set_option linter.unusedSectionVars false

theorem infoI : ∃ i, Try.prog.info? 3 = some i ∧ i.zero = some (.int .i64 0) ∧ i.size = 1 ∧ i.bytes = 8 := by
  have h := infoInt
  cases e : Try.prog.info? 3 with
  | none => rw [e] at h; cases h
  | some i => rw [e] at h; simp at h; exact ⟨i, rfl, h.1, h.2.1, h.2.2⟩
theorem infoInt64 : (Try.prog.info? 2).map (fun i => (i.zero, i.size, i.bytes)) = some (some (.int .i64 0), 1, 8) := by kernel_rfl
theorem infoI64 : ∃ i, Try.prog.info? 2 = some i ∧ i.zero = some (.int .i64 0) ∧ i.size = 1 ∧ i.bytes = 8 := by
  have h := infoInt64
  cases e : Try.prog.info? 2 with
  | none => rw [e] at h; cases h
  | some i => rw [e] at h; simp at h; exact ⟨i, rfl, h.1, h.2.1, h.2.2⟩
theorem only_of_below' {w w' : World} (h : Below w.heap.size w w') : Only [] w w' := ⟨h.os, h.tape, h.output, h.size, fun k hk _ => h.block k hk⟩
theorem row_of_owns {w : World} {base n : Nat} {t : TypeId} {v : Value} {f : Nat → Value} {xs : List Value} (h : w.ownsRow base t 1 v n xs) (hv : v ≠ .slice none 0 0) (hx : ∀ i, i < n → xs[i]? = some (f i)) :
    ∃ g c, v = .slice (some ⟨g, 0, none⟩) n c ∧ base ≤ g ∧ RowGe w g t n f := by
  obtain ⟨hl, h | ⟨g, cap, cur, e, hg, hh, hn, _, hs, ht⟩⟩ := h
  · exact absurd h.1 hv
  · refine ⟨g, cap, e, hg, cur, hh, fun i hi => ?_⟩
    have := hx i hi
    rw [← ht, List.getElem?_take] at this
    rw [if_pos (by omega)] at this
    simpa using this

set_option maxRecDepth 100000 in
set_option maxHeartbeats 2000000 in
theorem Clone_int (g n c : Nat) (f : Nat → Nat) (w : World) (h : Row w g n f) (hn : n ≤ 65536) : Calls Try.prog 143 #[.slice (some ⟨g, 0, none⟩) n c] w fun e w' => ∃ g' c', e = .returned (.slice (some ⟨g', 0, none⟩) n c') ∧ Row w' g' n f ∧ w.heap.size ≤ g' ∧ Only [] w w' := by
  obtain ⟨i0, hi, hz0, hz1, hz2⟩ := infoI
  have q : ∀ (w : World) (a : Option Addr) (n c n' c' : Nat), (binOp .eql 68 (.slice a n c) (.slice none n' c')).run Try.prog w = .ok (.bool a.isNone) w := fun w a n c n' c' => Lib.run_eql_slice_nil w _ _ a n c n' c' Try.underlying68
  have u : ∀ w, Sem.run Try.prog (underlying 68) w = .ok (TypeDesc.slice 3) w := run_underlying Try.underlying68
  have HR := Lib.hid h
  clear h
  go_enter Try.func143, Try.ntmps143
  go_wp2_with (at_builtin; refine wpList_append_own _ rfl _ _ 68 rfl w.heap.size 3 i0 (.int .i64 0) 1 8 Try.underlying68 hi hz0 hz1 hz2 rfl (by decide) _ _ _ rfl (World.ownsRow_made w #[] 0 (Nat.le_refl _) (Nat.zero_le _) rfl) ⟨g, 0, none⟩ n c ((List.range n).map fun i => .int .i64 (f i)) rfl ?qc1 ?qc2 ?qc3 ?qc4 ?qc5 ?qc6 ?_)
  case qc1 => simp
  case qc2 =>
    intro j u hj
    have hjn : j < n := by
      have := (List.getElem?_eq_some_iff.1 hj).1
      simpa using this
    rw [Addr.add_lit]
    refine Lib.cell?_alloc_some _ ?_
    rw [Nat.zero_add, HR.out.cell hjn]
    have e : ((List.range n).map fun i => Value.int .i64 (f i : Int))[j]? = some (Value.int .i64 (f j : Int)) := by simp [hjn]
    rw [e] at hj
    exact hj
  case qc3 => intro u hu; obtain ⟨x, _, rfl⟩ := List.mem_map.1 hu; rfl
  case qc4 => unfold maxLen; omega
  case qc5 => omega
  case qc6 => simp
  intro v' w1 hown hgrow hnil
  go_wp2
  go_ret
  obtain ⟨g', c', hv, hg', hr⟩ := row_of_owns (f := fun i => Value.int .i64 (f i : Int)) (n := n) (by simpa using hown) (by simpa using hnil) (fun i hi => by simp [hi])
  refine ⟨g', c', by rw [hv]; rfl, hr, hg', ?_⟩
  exact only_of_below' (((Below.refl _ w).alloc (Nat.le_refl _) _).grown hgrow (by simp) (by intro k hk; simp [Value.ownBlock] at hk; omega))

set_option maxRecDepth 100000 in
set_option maxHeartbeats 2000000 in
theorem Clone_int64 (g n c : Nat) (f : Nat → Nat) (w : World) (h : Row64 w g n f) (hn : n ≤ 65536) : Calls Try.prog 91 #[.slice (some ⟨g, 0, none⟩) n c] w fun e w' => ∃ g' c', e = .returned (.slice (some ⟨g', 0, none⟩) n c') ∧ Row64 w' g' n f ∧ w.heap.size ≤ g' ∧ Only [] w w' := by
  obtain ⟨i0, hi, hz0, hz1, hz2⟩ := infoI64
  have q : ∀ (w : World) (a : Option Addr) (n c n' c' : Nat), (binOp .eql 25 (.slice a n c) (.slice none n' c')).run Try.prog w = .ok (.bool a.isNone) w := fun w a n c n' c' => Lib.run_eql_slice_nil w _ _ a n c n' c' Try.underlying25
  have u : ∀ w, Sem.run Try.prog (underlying 25) w = .ok (TypeDesc.slice 2) w := run_underlying Try.underlying25
  have HR := Lib.hid h
  clear h
  go_enter Try.func91, Try.ntmps91
  go_wp2_with (at_builtin; refine wpList_append_own _ rfl _ _ 25 rfl w.heap.size 2 i0 (.int .i64 0) 1 8 Try.underlying25 hi hz0 hz1 hz2 rfl (by decide) _ _ _ rfl (World.ownsRow_made w #[] 0 (Nat.le_refl _) (Nat.zero_le _) rfl) ⟨g, 0, none⟩ n c ((List.range n).map fun i => .int .i64 (f i)) rfl ?qc1 ?qc2 ?qc3 ?qc4 ?qc5 ?qc6 ?_)
  case qc1 => simp
  case qc2 =>
    intro j u hj
    have hjn : j < n := by
      have := (List.getElem?_eq_some_iff.1 hj).1
      simpa using this
    rw [Addr.add_lit]
    refine Lib.cell?_alloc_some _ ?_
    rw [Nat.zero_add, HR.out.cell hjn]
    have e : ((List.range n).map fun i => Value.int .i64 (f i : Int))[j]? = some (Value.int .i64 (f j : Int)) := by simp [hjn]
    rw [e] at hj
    exact hj
  case qc3 => intro u hu; obtain ⟨x, _, rfl⟩ := List.mem_map.1 hu; rfl
  case qc4 => unfold maxLen; omega
  case qc5 => omega
  case qc6 => simp
  intro v' w1 hown hgrow hnil
  go_wp2
  go_ret
  obtain ⟨g', c', hv, hg', hr⟩ := row_of_owns (f := fun i => Value.int .i64 (f i : Int)) (n := n) (by simpa using hown) (by simpa using hnil) (fun i hi => by simp [hi])
  refine ⟨g', c', by rw [hv]; rfl, hr, hg', ?_⟩
  exact only_of_below' (((Below.refl _ w).alloc (Nat.le_refl _) _).grown hgrow (by simp) (by intro k hk; simp [Value.ownBlock] at hk; omega))

/-- The partition of a copy lies in rows with the same numbers. -/
theorem Dsu.copied {w w4 : World} {S U L Z n : Nat} {lab up rt d least size : Nat → Nat} {cu cl cz : Nat} (h : Dsu w S U L Z n lab up rt d least size cu cl cz) {S' U' L' Z' cu' cl' cz' : Nat}
    (hS : w4.heap[S']? = some (.cells (setsCells S' U' L' Z' n cu' cl' cz' (many n fun a => lab a == a)) 185 (0, 0))) (hU : Row w4 U' n up) (hL : Row w4 L' n least) (hZ : Row w4 Z' n size) (u1 : U' ≠ L') (u2 : U' ≠ Z') (u3 : L' ≠ Z') :
    Dsu w4 S' U' L' Z' n lab up rt d least size cu' cl' cz' := ⟨hS, hU, hL, hZ, u1, u2, u3, h.forest, h.bound, h.labE, h.leastE, h.lowE, h.sizeE⟩

/-- What is held while a partition is copied. -/
def CopyS (w : World) (S U L Z n cu cl cz : Nat) (m : Int) (W : World) : Prop := W.cell? ⟨S, 1, none⟩ = some (.slice (some ⟨U, 0, none⟩) n cu) ∧ W.cell? ⟨S, 2, none⟩ = some (.slice (some ⟨L, 0, none⟩) n cl) ∧ W.cell? ⟨S, 3, none⟩ = some (.slice (some ⟨Z, 0, none⟩) n cz) ∧ W.cell? ⟨S, 4, none⟩ = some (.int .i64 m) ∧ Only [] w W
theorem CopyS.step {w W W' : World} {S U L Z n cu cl cz : Nat} {m : Int} (h : CopyS w S U L Z n cu cl cz m W) (o : Only [] W W') : CopyS w S U L Z n cu cl cz m W' :=
  ⟨cells_keep o h.1 (by simp), cells_keep o h.2.1 (by simp), cells_keep o h.2.2.1 (by simp), cells_keep o h.2.2.2.1 (by simp), h.2.2.2.2.trans o⟩
theorem cloned {w W : World} {S U L Z n cu cl cz g c : Nat} {m : Int} {f : Nat → Nat} (hn : n ≤ 65536) (hr : Row w g n f) (h : CopyS w S U L Z n cu cl cz m W) : Calls Try.prog 143 #[.slice (some ⟨g, 0, none⟩) n c] W fun e w' =>
    (∃ g' c', e = .returned (.slice (some ⟨g', 0, none⟩) n c') ∧ Hid (Row w' g' n f ∧ W.heap.size ≤ g' ∧ Only [] W w')) ∧ CopyS w S U L Z n cu cl cz m w' :=
  (Clone_int g n c f W (hr.only h.2.2.2.2 (by simp)) hn).mono fun _ _ ⟨g', c', he, h1, h2, h3⟩ => ⟨⟨g', c', he, Lib.hid ⟨h1, h2, h3⟩⟩, h.step h3⟩

set_option maxRecDepth 100000 in
set_option maxHeartbeats 2000000 in
theorem DCopy {w : World} {F : List Nat} {S n : Nat} {lab : Nat → Nat} (h : DsuAt w F S n lab) : Calls Try.prog 90 #[.pointer (some ⟨S, 0, none⟩)] w fun e w' => ∃ F' S', e = .returned (.pointer (some ⟨S', 0, none⟩)) ∧ DsuAt w' F' S' n lab ∧ (∀ k, k ∈ F' → w.heap.size ≤ k) ∧ Only [] w w' := by
  obtain ⟨U, L, Z, up, rt, d, least, size, cu, cl, cz, rfl, h⟩ := h
  have CV := Lib.hid (svalid_any h)
  obtain ⟨s1, s2, s3, s4⟩ := h.c
  have HD := Lib.hid h
  have hb := h.bound
  obtain ⟨m, hm⟩ : ∃ m : Int, ((many n fun a => lab a == a : Nat) : Int) = m := ⟨_, rfl⟩
  rw [hm] at s4
  have C1 := Lib.hid (fun W1 (hS : CopyS w S U L Z n cu cl cz m W1) => cloned (c := cu) hb h.rowU hS)
  have C2 := Lib.hid (fun W1 (hS : CopyS w S U L Z n cu cl cz m W1) => cloned (c := cl) hb h.rowL hS)
  have C3 := Lib.hid (fun W1 (hS : CopyS w S U L Z n cu cl cz m W1) => cloned (c := cz) hb h.rowZ hS)
  have HM := Lib.hid hm
  have hO := Only.refl [] w
  clear h hm
  go_enter Try.func90, Try.ntmps90
  go_wp2_with fail
  refine CV.out.mono ?_
  rintro e w' ⟨rfl, rfl⟩
  go_wp2_with fail
  go_region_held3 (fun w' => w'.cell? ⟨S, 1, none⟩ = some (.slice (some ⟨U, 0, none⟩) n cu) ∧ w'.cell? ⟨S, 2, none⟩ = some (.slice (some ⟨L, 0, none⟩) n cl) ∧ w'.cell? ⟨S, 3, none⟩ = some (.slice (some ⟨Z, 0, none⟩) n cz) ∧ w'.cell? ⟨S, 4, none⟩ = some (.int .i64 m) ∧ Only [] w w') (first | exact ⟨s1, s2, s3, s4, hO⟩ | exact ⟨s1, s2, s3, s4, hO.drewN 1⟩ | exact CopyS.step hS3 ((Only.refl [] w3).alloc _) | assumption)
    (first
      | (go_at_call_of 143 (Value.slice (some ⟨U, 0, none⟩) n cu); refine (C1.out _ (by assumption)).mono ?_; rintro e w1 ⟨⟨g1, k1, rfl, R1⟩, hS1⟩)
      | (go_at_call_of 143 (Value.slice (some ⟨L, 0, none⟩) n cl); refine (C2.out _ (by assumption)).mono ?_; rintro e w2 ⟨⟨g2, k2, rfl, R2⟩, hS2⟩)
      | (go_at_call_of 143 (Value.slice (some ⟨Z, 0, none⟩) n cz); refine (C3.out _ (by assumption)).mono ?_; rintro e w3 ⟨⟨g3, k3, rfl, R3⟩, hS3⟩))
  have hS9 := Lib.hid hS3
  clear hS1 hS2 hS3 C1 C2 C3 CV
  go_wp2_with fail
  go_ret
  obtain ⟨r1, b1, o1⟩ := R1.out
  obtain ⟨r2, b2, o2⟩ := R2.out
  obtain ⟨r3, b3, o3⟩ := R3.out
  have l1 := r1.lt
  have l2 := r2.lt
  have l3 := r3.lt
  have z1 := o1.size
  have z2 := o2.size
  have z3 := o3.size
  have e1 := ((r1.only o2 (by simp)).only o3 (by simp)).only ((Only.refl [] w3).alloc (.cells (setsCells w3.heap.size g1 g2 g3 n k1 k2 k3 (many n fun a => lab a == a)) 185)) (by simp)
  have e2 := (r2.only o3 (by simp)).only ((Only.refl [] w3).alloc (.cells (setsCells w3.heap.size g1 g2 g3 n k1 k2 k3 (many n fun a => lab a == a)) 185)) (by simp)
  have e3 := r3.only ((Only.refl [] w3).alloc (.cells (setsCells w3.heap.size g1 g2 g3 n k1 k2 k3 (many n fun a => lab a == a)) 185)) (by simp)
  rw [← HM.out]
  refine ⟨[w3.heap.size, g1, g2, g3], w3.heap.size, rfl, ⟨g1, g2, g3, up, rt, d, least, size, k1, k2, k3, rfl, HD.out.copied (heap_alloc_new _ _) e1 e2 e3 (by omega) (by omega) (by omega)⟩, fun k hk => ?_, hS9.out.2.2.2.2.trans ((Only.refl [] w3).alloc _)⟩
  have zz := o1.size
  have z0 : w.heap.size ≤ w.drew.heap.size := Nat.le_refl _
  simp only [List.mem_cons, List.not_mem_nil, or_false] at hk
  rcases hk with rfl | rfl | rfl | rfl <;> omega
end Go.Proofs.Ytbafacdknaopjaa
