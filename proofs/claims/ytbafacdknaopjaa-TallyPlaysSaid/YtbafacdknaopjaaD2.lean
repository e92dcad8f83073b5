/-
  Disjoint sets as they lie in memory; Least, Count.
-/
import Derived.Test.YtbafacdknaopjaaD1
import Derived.BigQuiet
import Derived.Deep.RegionWith
namespace Go.Proofs.Ytbafacdknaopjaa
open Go.RowKit
set_option linter.unusedSimpArgs false

/-- How many of the first n numbers are p. -/
def many (n : Nat) (p : Nat → Bool) : Nat := (List.range n).countP p
theorem many_le (n : Nat) (p : Nat → Bool) : many n p ≤ n := by
  have := List.countP_le_length (p := p) (l := List.range n)
  simpa [many] using this

/-- Disjoint sets of n elements lie in these blocks; lab: the least element of each one's set. -/
structure Dsu (W : World) (S U L Z n : Nat) (lab : Nat → Nat) (up rt d least size : Nat → Nat) (cu cl cz : Nat) : Prop where
  head : W.heap[S]? = some (.cells (setsCells S U L Z n cu cl cz (many n fun a => lab a == a)) 185 (0, 0))
  rowU : Row W U n up
  rowL : Row W L n least
  rowZ : Row W Z n size
  ul : U ≠ L
  uz : U ≠ Z
  lz : L ≠ Z
  forest : Forest n up rt d
  bound : n ≤ 65536
  labE : ∀ a, a < n → lab a = least (rt a)
  leastE : ∀ a, a < n → least (rt a) < n ∧ rt (least (rt a)) = rt a
  lowE : ∀ a, a < n → lab a ≤ a
  sizeE : ∀ r, r < n → rt r = r → size r = many n fun a => rt a == r
def DsuAt (W : World) (F : List Nat) (S n : Nat) (lab : Nat → Nat) : Prop := ∃ U L Z up rt d least size cu cl cz, F = [S, U, L, Z] ∧ Dsu W S U L Z n lab up rt d least size cu cl cz
theorem Dsu.suz {W : World} {S U L Z n : Nat} {lab up rt d least size : Nat → Nat} {cu cl cz : Nat} (h : Dsu W S U L Z n lab up rt d least size cu cl cz) : S ≠ U ∧ S ≠ L ∧ S ≠ Z := by
  have e : ∀ g f, Row W g n f → S ≠ g := fun g f hr hg => by
    subst hg
    obtain ⟨cs, hc⟩ := hr.heap
    rw [h.head] at hc
    cases hc
  exact ⟨e _ _ h.rowU, e _ _ h.rowL, e _ _ h.rowZ⟩
theorem Dsu.same {W W' : World} {S U L Z n : Nat} {lab up rt d least size : Nat → Nat} {cu cl cz : Nat} (h : Dsu W S U L Z n lab up rt d least size cu cl cz) (hk : ∀ k, k ∈ [S, U, L, Z] → W'.heap[k]? = W.heap[k]?) :
    Dsu W' S U L Z n lab up rt d least size cu cl cz :=
  ⟨(hk S (by simp)).trans h.head, h.rowU.same (hk U (by simp)), h.rowL.same (hk L (by simp)), h.rowZ.same (hk Z (by simp)), h.ul, h.uz, h.lz, h.forest, h.bound, h.labE, h.leastE, h.lowE, h.sizeE⟩
theorem DsuAt.same {W W' : World} {F : List Nat} {S n : Nat} {lab : Nat → Nat} (h : DsuAt W F S n lab) (hk : ∀ k, k ∈ F → W'.heap[k]? = W.heap[k]?) : DsuAt W' F S n lab := by
  obtain ⟨U, L, Z, up, rt, d, least, size, cu, cl, cz, rfl, h⟩ := h
  exact ⟨U, L, Z, up, rt, d, least, size, cu, cl, cz, rfl, h.same hk⟩
theorem Dsu.flt {W : World} {S U L Z n : Nat} {lab up rt d least size : Nat → Nat} {cu cl cz : Nat} (h : Dsu W S U L Z n lab up rt d least size cu cl cz) : ∀ k, k ∈ [S, U, L, Z] → k < W.heap.size := by
  intro k hk
  simp only [List.mem_cons, List.not_mem_nil, or_false] at hk
  rcases hk with rfl | rfl | rfl | rfl
  · exact heap_lt h.head
  · exact h.rowU.lt
  · exact h.rowL.lt
  · exact h.rowZ.lt
theorem DsuAt.lt {W : World} {F : List Nat} {S n : Nat} {lab : Nat → Nat} (h : DsuAt W F S n lab) : ∀ k, k ∈ F → k < W.heap.size := by
  obtain ⟨U, L, Z, up, rt, d, least, size, cu, cl, cz, rfl, h⟩ := h
  exact h.flt
theorem DsuAt.only {W W' : World} {F gs : List Nat} {S n : Nat} {lab : Nat → Nat} (h : DsuAt W F S n lab) (ho : Only gs W W') (hd : ∀ k, k ∈ F → k ∉ gs) : DsuAt W' F S n lab := h.same fun k hk => ho.block k (h.lt k hk) (hd k hk)
theorem DsuAt.bound {W : World} {F : List Nat} {S n : Nat} {lab : Nat → Nat} (h : DsuAt W F S n lab) : n ≤ 65536 := by
  obtain ⟨U, L, Z, up, rt, d, least, size, cu, cl, cz, rfl, h⟩ := h
  exact h.bound
theorem DsuAt.low {W : World} {F : List Nat} {S n : Nat} {lab : Nat → Nat} (h : DsuAt W F S n lab) {a : Nat} (ha : a < n) : lab a ≤ a := by
  obtain ⟨U, L, Z, up, rt, d, least, size, cu, cl, cz, rfl, h⟩ := h
  exact h.lowE a ha
theorem DsuAt.idem {W : World} {F : List Nat} {S n : Nat} {lab : Nat → Nat} (h : DsuAt W F S n lab) {a : Nat} (ha : a < n) : lab (lab a) = lab a := by
  obtain ⟨U, L, Z, up, rt, d, least, size, cu, cl, cz, rfl, h⟩ := h
  have h1 := h.labE a ha
  have h2 := h.leastE a ha
  rw [h1, h.labE _ h2.1, h2.2]

theorem sets_info : Try.prog.info? 185 = some ((Try.prog.info? 185).getD default) := by kernel_rfl

section
variable {W : World} {S U L Z n : Nat} {lab up rt d least size : Nat → Nat} {cu cl cz : Nat} (h : Dsu W S U L Z n lab up rt d least size cu cl cz)
include h
set_option maxRecDepth 100000 in
theorem svalid_any : Calls Try.prog 125 #[.pointer (some ⟨S, 0, none⟩)] W fun e w' => e = .returned (.bool true) ∧ W = w' := by
  have c0 := cell_of_heap (i := 0) h.head rfl
  replace c0 : W.cell? ⟨S, 0, none⟩ = some (.pointer (some ⟨S, 0, none⟩)) := c0
  clear h
  go_enter Try.func125, Try.ntmps125
  have he := fun W => run_eql_ptr_same (P := Try.prog) (w := W) (tp := 62) (te := 185) ⟨S, 0, none⟩ Try.underlying62 sets_info
  go_wp2
  go_ret
  exact ⟨rfl, rfl⟩
set_option maxRecDepth 100000 in
theorem has_any (a : Int) : Calls Try.prog 126 #[.pointer (some ⟨S, 0, none⟩), .int .i64 a] W fun e w' => e = .returned (.bool (decide (0 ≤ a ∧ a < n))) ∧ W = w' := by
  have c1 := cell_of_heap (i := 1) h.head rfl
  replace c1 : W.cell? ⟨S, 1, none⟩ = some (.slice (some ⟨U, 0, none⟩) n cu) := c1
  have CV := Lib.hid (svalid_any h)
  clear h
  by_cases h0 : 0 ≤ a
  · by_cases h1 : a < n
    · rw [decide_eq_true ⟨h0, h1⟩]
      go_enter Try.func126, Try.ntmps126
      go_wp2_with fail
      refine CV.out.mono ?_
      rintro e w' ⟨rfl, rfl⟩
      go_wp2_with fail
      go_ret
      exact ⟨rfl, rfl⟩
    · rw [decide_eq_false (fun h => h1 h.2)]
      have q1 : decide (a < (n : Int)) = false := decide_eq_false h1
      go_enter Try.func126, Try.ntmps126
      go_wp2_with fail
      refine CV.out.mono ?_
      rintro e w' ⟨rfl, rfl⟩
      go_wp2_with fail
      go_ret
      exact ⟨rfl, rfl⟩
  · rw [decide_eq_false (fun h => h0 h.1)]
    have q : decide (0 ≤ a) = false := decide_eq_false h0
    go_enter Try.func126, Try.ntmps126
    go_wp2_with fail
    refine CV.out.mono ?_
    rintro e w' ⟨rfl, rfl⟩
    go_wp2_with fail
    go_ret
    exact ⟨rfl, rfl⟩
theorem Dsu.c : W.cell? ⟨S, 1, none⟩ = some (.slice (some ⟨U, 0, none⟩) n cu) ∧ W.cell? ⟨S, 2, none⟩ = some (.slice (some ⟨L, 0, none⟩) n cl) ∧ W.cell? ⟨S, 3, none⟩ = some (.slice (some ⟨Z, 0, none⟩) n cz) ∧
    W.cell? ⟨S, 4, none⟩ = some (.int .i64 (many n fun a => lab a == a : Nat)) := ⟨cell_of_heap h.head rfl, cell_of_heap h.head rfl, cell_of_heap h.head rfl, cell_of_heap h.head rfl⟩
theorem root_dsu (a : Nat) (ha : a < n) : Calls Try.prog 127 #[.pointer (some ⟨S, 0, none⟩), .int .i64 a] W fun e w' => e = .returned (.int .i64 (rt a)) ∧ ∃ up', Dsu w' S U L Z n lab up' rt d least size cu cl cz ∧ Only [U] W w' := by
  obtain ⟨hSU, hSL, hSZ⟩ := h.suz
  refine (root_any S U n cu a up rt d W h.c.1 hSU h.rowU h.forest ha).mono ?_
  rintro e w' ⟨rfl, up', hF, hR, hO⟩
  exact ⟨rfl, up', ⟨(hO.block S (h.flt S (by simp)) (by simpa using hSU)).trans h.head, hR, h.rowL.only hO (by simpa using h.ul.symm), h.rowZ.only hO (by simpa using h.uz.symm), h.ul, h.uz, h.lz, hF, h.bound, h.labE, h.leastE, h.lowE, h.sizeE⟩, hO⟩

set_option maxRecDepth 100000 in
set_option maxHeartbeats 2000000 in
theorem Least_in (a : Nat) (ha : a < n) : Calls Try.prog 73 #[.pointer (some ⟨S, 0, none⟩), .int .i64 a] W fun e w' => e = .returned (.tuple #[.int .i64 (lab a), .int .i64 0]) ∧ ∃ up', Dsu w' S U L Z n lab up' rt d least size cu cl cz ∧ Only [U] W w' := by
  have c2 := h.c.2.1
  have CV := Lib.hid (svalid_any h)
  have CH := Lib.hid (has_any h (a : Int))
  rw [decide_eq_true (show 0 ≤ (a : Int) ∧ (a : Int) < n by omega)] at CH
  have hr := h.forest.rlt a ha
  have HL := Lib.hid (h.labE a ha)
  have CR := Lib.hid ((root_dsu (h.same (W' := W.drew) fun _ _ => rfl) a ha).mono (R' := fun e w' => e = .returned (.int .i64 (rt a)) ∧ w'.cell? ⟨S, 2, none⟩ = some (.slice (some ⟨L, 0, none⟩) n cl) ∧ w'.cell? ⟨L, rt a, none⟩ = some (.int .i64 (lab a)) ∧ Hid (∃ up', Dsu w' S U L Z n lab up' rt d least size cu cl cz ∧ Only [U] W w')) fun e w' ⟨he, up', hd, ho⟩ => ⟨he, hd.c.2.1, by rw [HL.out]; exact hd.rowL.cell hr, Lib.hid ⟨up', hd, ((Only.refl [U] W).drewN 1).trans ho⟩⟩)
  clear h
  go_enter Try.func73, Try.ntmps73
  go_wp2_with fail
  refine CV.out.mono ?_
  rintro e w' ⟨rfl, rfl⟩
  go_wp2_with fail
  refine CH.out.mono ?_
  rintro e w' ⟨rfl, rfl⟩
  go_wp2_with fail
  go_region_with (go_at_call 127; refine CR.out.mono ?_; rintro e w1 ⟨rfl, e4, e3, HP⟩)
  all_goals
    go_wp2_with fail
    go_ret2
    exact ⟨rfl, HP.out⟩
set_option maxRecDepth 100000 in
theorem Least_out (a : Int) (ha : ¬ (0 ≤ a ∧ a < n)) : Calls Try.prog 73 #[.pointer (some ⟨S, 0, none⟩), .int .i64 a] W fun e w' => e = .returned (.tuple #[.int .i64 0, .int .i64 3]) ∧ W = w' := by
  have CV := Lib.hid (svalid_any h)
  have CH := Lib.hid (has_any h a)
  rw [decide_eq_false ha] at CH
  clear h ha
  go_enter Try.func73, Try.ntmps73
  go_wp2_with fail
  refine CV.out.mono ?_
  rintro e w' ⟨rfl, rfl⟩
  go_wp2_with fail
  refine CH.out.mono ?_
  rintro e w' ⟨rfl, rfl⟩
  go_wp2_with fail
  go_ret2
  exact ⟨rfl, rfl⟩
set_option maxRecDepth 100000 in
theorem SCount_any : Calls Try.prog 74 #[.pointer (some ⟨S, 0, none⟩)] W fun e w' => e = .returned (.int .i64 (many n fun a => lab a == a : Nat)) ∧ W = w' := by
  have c4 := h.c.2.2.2
  have CV := Lib.hid (svalid_any h)
  clear h
  go_enter Try.func74, Try.ntmps74
  go_wp2_with fail
  refine CV.out.mono ?_
  rintro e w' ⟨rfl, rfl⟩
  go_wp2_with fail
  go_ret
  exact ⟨rfl, rfl⟩
end
end Go.Proofs.Ytbafacdknaopjaa
