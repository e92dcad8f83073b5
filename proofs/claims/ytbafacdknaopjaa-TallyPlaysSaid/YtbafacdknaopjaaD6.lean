/-
  A new partition.
-/
import Derived.Test.YtbafacdknaopjaaD5
import Derived.Test.YtbafacdknaopjaaA12
import Derived.Deep.CutRange
import Derived.IntWalk
namespace Go.Proofs.Ytbafacdknaopjaa
open Go.RowKit
set_option linter.unusedSimpArgs false

theorem infoInt : (Try.prog.info? 3).map (fun i => (i.zero, i.size, i.bytes)) = some (some (.int .i64 0), 1, 8) := by kernel_rfl
theorem mk_ints (n : Nat) (hn : n ≤ 2147483647) (w : World) : (Instr.makeSlice 68 (.int .i64 (n : Int)) (.int .i64 (n : Int))).run Try.prog w = .ok (.slice (some ⟨w.heap.size, 0, none⟩) n n) (w.alloc (.cells (madeCells #[.int .i64 0] n) 3)) :=
  run_make_row' 68 3 (.int .i64 0) 8 Try.underlying68 infoInt rfl .i64 .i64 n (by omega) (by omega) w
theorem made_row {w : World} {g n : Nat} (h : w.heap[g]? = some (.cells (madeCells #[.int .i64 0] n) 3 (0, 0))) : Row w g n (fun _ => 0) := by
  obtain ⟨c, hc, r⟩ := World.rowIs_made w (.int .i64 0) n 3
  rw [heap_alloc_new] at hc
  cases hc
  exact ⟨_, h, r.2⟩

/-- Ahead of the loop. -/
def Start (w : World) (n : Nat) (s : Value) (wc : World) : Prop := ∃ S U L Z : Nat, s = .pointer (some ⟨S, 0, none⟩) ∧ (U ≠ L ∧ U ≠ Z ∧ L ≠ Z) ∧ (w.heap.size ≤ S ∧ w.heap.size ≤ U ∧ w.heap.size ≤ L ∧ w.heap.size ≤ Z) ∧
  wc.heap[S]? = some (.cells #[.pointer none, .slice (some ⟨U, 0, none⟩) n n, .slice (some ⟨L, 0, none⟩) n n, .slice (some ⟨Z, 0, none⟩) n n, .int .i64 n] 185 (0, 0)) ∧ Row wc U n (fun _ => 0) ∧ Row wc L n (fun _ => 0) ∧ Row wc Z n (fun _ => 0) ∧ Only [] w wc
theorem start_of {w : World} {n a b c : Nat} (ha : a < 3) (hb : b < 3) (hc : c < 3) (hab : a ≠ b) (hac : a ≠ c) (hbc : b ≠ c) (k : Nat) :
    Start w n (.pointer (some ⟨w.heap.size + 3, 0, none⟩)) ((((((w.alloc (.cells (madeCells #[.int .i64 0] n) 3)).alloc (.cells (madeCells #[.int .i64 0] n) 3)).alloc (.cells (madeCells #[.int .i64 0] n) 3))).alloc
      (.cells #[.pointer none, .slice (some ⟨w.heap.size + a, 0, none⟩) n n, .slice (some ⟨w.heap.size + b, 0, none⟩) n n, .slice (some ⟨w.heap.size + c, 0, none⟩) n n, .int .i64 n] 185)).drewN k) := by
  obtain ⟨w3, hw3⟩ : ∃ w3, ((w.alloc (.cells (madeCells #[.int .i64 0] n) 3)).alloc (.cells (madeCells #[.int .i64 0] n) 3)).alloc (.cells (madeCells #[.int .i64 0] n) 3) = w3 := ⟨_, rfl⟩
  have hsz : w3.heap.size = w.heap.size + 3 := by rw [← hw3]; simp only [World.size_alloc]
  have hO : Only [] w w3 := hw3 ▸ (((Only.refl [] w).alloc _).alloc _).alloc _
  have h3 : ∀ i, i < 3 → w3.heap[w.heap.size + i]? = some (.cells (madeCells #[.int .i64 0] n) 3 (0, 0)) := by
    intro i hi
    have hi3 : i = 0 ∨ i = 1 ∨ i = 2 := by omega
    rw [← hw3]
    rcases hi3 with rfl | rfl | rfl
    · rw [heap_alloc_old _ _ (by simp only [World.size_alloc]; omega), heap_alloc_old _ _ (by simp only [World.size_alloc]; omega)]
      exact heap_alloc_new w _
    · rw [heap_alloc_old _ _ (by simp only [World.size_alloc]; omega)]
      have := heap_alloc_new (w.alloc (.cells (madeCells #[.int .i64 0] n) 3)) (.cells (madeCells #[.int .i64 0] n) 3)
      rwa [World.size_alloc] at this
    · have := heap_alloc_new ((w.alloc (.cells (madeCells #[.int .i64 0] n) 3)).alloc (.cells (madeCells #[.int .i64 0] n) 3)) (.cells (madeCells #[.int .i64 0] n) 3)
      simpa only [World.size_alloc] using this
  rw [hw3]
  have hk : ∀ (o : Obj) (i : Nat), i < 3 → (w3.alloc o).heap[w.heap.size + i]? = some (.cells (madeCells #[.int .i64 0] n) 3 (0, 0)) := fun o i hi => (heap_alloc_old _ _ (by omega)).trans (h3 i hi)
  refine ⟨_, _, _, _, rfl, ⟨by omega, by omega, by omega⟩, ⟨by omega, by omega, by omega, by omega⟩, ?_, made_row (hk _ a ha), made_row (hk _ b hb), made_row (hk _ c hc), (hO.alloc _).drewN _⟩
  have := heap_alloc_new w3 (.cells #[.pointer none, .slice (some ⟨w.heap.size + a, 0, none⟩) n n, .slice (some ⟨w.heap.size + b, 0, none⟩) n n, .slice (some ⟨w.heap.size + c, 0, none⟩) n n, .int .i64 n] 185)
  rwa [hsz] at this

/-- The rows after k rounds. -/
structure Filled (w : World) (n S U L Z k : Nat) (wr : World) : Prop where
  head : wr.heap[S]? = some (.cells #[.pointer (some ⟨S, 0, none⟩), .slice (some ⟨U, 0, none⟩) n n, .slice (some ⟨L, 0, none⟩) n n, .slice (some ⟨Z, 0, none⟩) n n, .int .i64 n] 185 (0, 0))
  rowU : Row wr U n (fun i => if i < k then i else 0)
  rowL : Row wr L n (fun i => if i < k then i else 0)
  rowZ : Row wr Z n (fun i => if i < k then 1 else 0)
  only : Only [] w wr

theorem Row.congr {w : World} {g n : Nat} {f f' : Nat → Nat} (h : Row w g n f) (e : ∀ i, i < n → f i = f' i) : Row w g n f' := RowGe.congr h fun i hi => by rw [e i hi]
theorem Filled.drew {w : World} {n S U L Z k : Nat} {wr : World} (h : Filled w n S U L Z k wr) : Filled w n S U L Z k wr.drew := ⟨h.head, h.rowU.same rfl, h.rowL.same rfl, h.rowZ.same rfl, h.only.drewN 1⟩
theorem Filled.step {w : World} {n S U L Z k : Nat} {wr : World} (h : Filled w n S U L Z k wr) (hSU : S ≠ U) (hSL : S ≠ L) (hSZ : S ≠ Z) (hUL : U ≠ L) (hUZ : U ≠ Z) (hLZ : L ≠ Z) (hw : w.heap.size ≤ U ∧ w.heap.size ≤ L ∧ w.heap.size ≤ Z) :
    Filled w n S U L Z (k + 1) (((wr.setCell ⟨U, k, none⟩ (.int .i64 k)).setCell ⟨L, k, none⟩ (.int .i64 k)).setCell ⟨Z, k, none⟩ (.int .i64 1)) := by
  refine ⟨head_other (head_other (head_other h.head hSU _) hSL _) hSZ _, ?_, ?_, ?_, ?_⟩
  · refine Row.congr (((h.rowU.put k k).set_other hUL _).set_other hUZ _) fun i _ => ?_
    simp only [put]; split <;> split <;> (try split) <;> omega
  · refine Row.congr (((h.rowL.set_other hUL.symm _).put k k).set_other hLZ _) fun i _ => ?_
    simp only [put]; split <;> split <;> (try split) <;> omega
  · refine Row.congr (((h.rowZ.set_other hUZ.symm _).set_other hLZ.symm _).put k 1) fun i _ => ?_
    simp only [put]; split <;> split <;> (try split) <;> omega
  · refine h.only.to ((((Only.refl [U, L, Z] wr).setCell (g := U) (by simp) _).setCell (g := L) (by simp) _).setCell (g := Z) (by simp) _) fun i hi hlt => ?_
    simp at hi; omega
theorem many_all (n : Nat) : (many n fun a => id a == a) = n := by
  unfold many
  rw [List.countP_eq_length.2 fun a _ => by simp, List.length_range]
theorem Filled.done {w : World} {n S U L Z : Nat} {wr : World} (h : Filled w n S U L Z n wr) (hn : n ≤ 65536) (hUL : U ≠ L) (hUZ : U ≠ Z) (hLZ : L ≠ Z) : DsuAt wr [S, U, L, Z] S n id := by
  refine ⟨U, L, Z, id, id, fun _ => 0, id, fun _ => 1, n, n, n, rfl, ?_, h.rowU.congr fun i hi => if_pos hi, h.rowL.congr fun i hi => if_pos hi, h.rowZ.congr fun i hi => if_pos hi, hUL, hUZ, hLZ, Forest.own _, hn, fun _ _ => rfl, fun a ha => ⟨ha, rfl⟩, fun a _ => Nat.le_refl _, fun r hr _ => ?_⟩
  · rw [many_all]; exact h.head
  · exact (many_one hr).symm

set_option maxRecDepth 100000 in
set_option maxHeartbeats 4000000 in
theorem DNew (n : Nat) (hn : n ≤ 65536) (w : World) : Calls Try.prog 138 #[.int .i64 n] w fun e w' => ∃ F S, e = .returned (.tuple #[.pointer (some ⟨S, 0, none⟩), .int .i64 0]) ∧ DsuAt w' F S n id ∧ (∀ k, k ∈ F → w.heap.size ≤ k) ∧ Only [] w w' := by
  have hmk := fun W => mk_ints n (by omega) W
  go_enter Try.func138, Try.ntmps138
  go_upto_region 3 with (fail)
  go_cut [4] from 12 (fun s wc => Start w n s wc)
  case first =>
    go_region
    all_goals
      go_wp2
      go_meet
    all_goals (first | exact start_of (a := 0) (b := 1) (c := 2) (by omega) (by omega) (by omega) (by omega) (by omega) (by omega) 1 | exact start_of (a := 0) (b := 2) (c := 1) (by omega) (by omega) (by omega) (by omega) (by omega) (by omega) 1 | exact start_of (a := 1) (b := 0) (c := 2) (by omega) (by omega) (by omega) (by omega) (by omega) (by omega) 1 | exact start_of (a := 1) (b := 2) (c := 0) (by omega) (by omega) (by omega) (by omega) (by omega) (by omega) 1 | exact start_of (a := 2) (b := 0) (c := 1) (by omega) (by omega) (by omega) (by omega) (by omega) (by omega) 1 | exact start_of (a := 2) (b := 1) (c := 0) (by omega) (by omega) (by omega) (by omega) (by omega) (by omega) 1)
  case rest =>
    obtain ⟨S, U, L, Z, rfl, ⟨hUL, hUZ, hLZ⟩, ⟨b1, b2, b3, b4⟩, hS, hU, hL, hZ, hO⟩ := hcut
    clear hmk
    have c0 := cell_of_heap (i := 0) hS rfl
    have z0 := frozen_of_heap (i := 0) hS
    have hne : ∀ {g : Nat} {f : Nat → Nat}, Row wc g n f → S ≠ g := fun hr e => by
      subst e
      obtain ⟨cs, hc⟩ := hr.heap
      rw [hS] at hc
      cases hc
    have hSU := hne hU
    have hSL := hne hL
    have hSZ := hne hZ
    have H0 := Lib.hid (show Filled w n S U L Z 0 (wc.setCell ⟨S, 0, none⟩ (.pointer (some ⟨S, 0, none⟩))) from
      ⟨heap_setCell_same wc S 0 _ 185 _ hS, (hU.set_other hSU.symm _), (hL.set_other hSL.symm _), (hZ.set_other hSZ.symm _), hO.to ((Only.refl [S] wc).setCell (by simp) _) (fun i hi hlt => by simp at hi; omega)⟩)
    have hUS := Ne.symm hSU
    have hLS := Ne.symm hSL
    have hZS := Ne.symm hSZ
    have hLU := Ne.symm hUL
    have hZU := Ne.symm hUZ
    have hZL := Ne.symm hLZ
    clear hS hU hL hZ hne hO
    go_wp2
    go_loopw [26] (fun i wr => ∃ k : Nat, k ≤ n ∧ i = .int .i64 k ∧ Hid (Filled w n S U L Z k wr)) (fun i _ => n - (intOf i).toNat)
    case atStart => exact ⟨0, Nat.zero_le _, rfl, H0⟩
    case round =>
      obtain ⟨k, hk, rfl, hf⟩ := hrel
      by_cases hlt : k < n
      · have s1 := cell_of_heap (i := 1) hf.out.head rfl
        have s2 := cell_of_heap (i := 2) hf.out.head rfl
        have s3 := cell_of_heap (i := 3) hf.out.head rfl
        replace s1 : wr.cell? ⟨S, 1, none⟩ = some (.slice (some ⟨U, 0, none⟩) n n) := s1
        replace s2 : wr.cell? ⟨S, 2, none⟩ = some (.slice (some ⟨L, 0, none⟩) n n) := s2
        replace s3 : wr.cell? ⟨S, 3, none⟩ = some (.slice (some ⟨Z, 0, none⟩) n n) := s3
        have d1 := hf.out.rowU.cell hlt
        have d2 := hf.out.rowL.cell hlt
        have d3 := hf.out.rowZ.cell hlt
        have z1 := hf.out.rowU.frozen k
        have z2 := hf.out.rowL.frozen k
        have z3 := hf.out.rowZ.frozen k
        rw [if_neg (Nat.lt_irrefl k)] at d1 d2 d3
        go_wp2
        go_region
        go_wp2
        go_roundw
        case rel => exact ⟨k + 1, by omega, by go_num, Lib.hid ((hf.out.step hSU hSL hSZ hUL hUZ hLZ ⟨b2, b3, b4⟩).drew)⟩
        case measure => simp [intOf]; omega
      · obtain rfl : k = n := by omega
        have HD := Lib.hid (hf.out.done hn hUL hUZ hLZ)
        have HO := Lib.hid hf.out.only
        clear hf
        go_wp2
        go_ret2
        exact ⟨[S, U, L, Z], S, rfl, HD.out, fun x hx => by simp at hx; omega, HO.out⟩

set_option maxRecDepth 100000 in
theorem DNew_bad (n : Int) (hn : n < 0 ∨ 65536 < n) (w : World) : Calls Try.prog 138 #[.int .i64 n] w fun e w' => e = .returned (.tuple #[.pointer none, .int .i64 2]) ∧ w = w' := by
  by_cases h0 : n < 0
  · have q : decide (n < 0) = true := decide_eq_true h0
    clear hn
    go_enter Try.func138, Try.ntmps138
    go_wp2_with fail
    go_ret2
    exact ⟨rfl, rfl⟩
  · have q : decide (n < 0) = false := decide_eq_false h0
    have h1 : 65536 < n := by omega
    clear hn
    go_enter Try.func138, Try.ntmps138
    go_wp2_with fail
    go_ret2
    exact ⟨rfl, rfl⟩
end Go.Proofs.Ytbafacdknaopjaa
