import Derived.Deep.CutRange
import Derived.IntWalk
import Derived.Test.YtipgbbhgmoehfaaDoorZ1
/-
  A new partition.
-/
namespace Go.Proofs.YtipgbbhgmoehfaaDoor
open Go.RowKit
set_option linter.unusedSimpArgs false

theorem infoInt : (Tryd.prog.info? 3).map (fun i => (i.zero, i.size, i.bytes)) = some (some (.int .i64 0), 1, 8) := by kernel_rfl
theorem mk_ints (n : Nat) (hn : n ≤ 2147483647) (w : World) : (Instr.makeSlice 31 (.int .i64 (n : Int)) (.int .i64 (n : Int))).run Tryd.prog w = .ok (.slice (some ⟨w.heap.size, 0, none⟩) n n) (w.alloc (.cells (madeCells #[.int .i64 0] n) 3)) :=
  run_make_row' 31 3 (.int .i64 0) 8 Tryd.underlying31 infoInt rfl .i64 .i64 n (by omega) (by omega) w
theorem made_row {w : World} {g n : Nat} (h : w.heap[g]? = some (.cells (madeCells #[.int .i64 0] n) 3 (0, 0))) : Row w g n (fun _ => 0) := by
  obtain ⟨c, hc, r⟩ := World.rowIs_made w (.int .i64 0) n 3
  rw [heap_alloc_new] at hc
  cases hc
  exact ⟨_, h, r.2⟩

/-- Ahead of the loop. -/
def Start (w : World) (n : Nat) (s : Value) (wc : World) : Prop := ∃ S U L Z : Nat, s = .pointer (some ⟨S, 0, none⟩) ∧ (U ≠ L ∧ U ≠ Z ∧ L ≠ Z) ∧ (w.heap.size ≤ S ∧ w.heap.size ≤ U ∧ w.heap.size ≤ L ∧ w.heap.size ≤ Z) ∧
  wc.heap[S]? = some (.cells #[.pointer none, .slice (some ⟨U, 0, none⟩) n n, .slice (some ⟨L, 0, none⟩) n n, .slice (some ⟨Z, 0, none⟩) n n, .int .i64 n] 109 (0, 0)) ∧ Row wc U n (fun _ => 0) ∧ Row wc L n (fun _ => 0) ∧ Row wc Z n (fun _ => 0) ∧ Only [] w wc
theorem start_of {w : World} {n a b c : Nat} (ha : a < 3) (hb : b < 3) (hc : c < 3) (hab : a ≠ b) (hac : a ≠ c) (hbc : b ≠ c) (k : Nat) :
    Start w n (.pointer (some ⟨w.heap.size + 3, 0, none⟩)) ((((((w.alloc (.cells (madeCells #[.int .i64 0] n) 3)).alloc (.cells (madeCells #[.int .i64 0] n) 3)).alloc (.cells (madeCells #[.int .i64 0] n) 3))).alloc
      (.cells #[.pointer none, .slice (some ⟨w.heap.size + a, 0, none⟩) n n, .slice (some ⟨w.heap.size + b, 0, none⟩) n n, .slice (some ⟨w.heap.size + c, 0, none⟩) n n, .int .i64 n] 109)).drewN k) := by
  obtain ⟨w3, hw3⟩ : ∃ w3, ((w.alloc (.cells (madeCells #[.int .i64 0] n) 3)).alloc (.cells (madeCells #[.int .i64 0] n) 3)).alloc (.cells (madeCells #[.int .i64 0] n) 3) = w3 := ⟨_, rfl⟩
  have hsz : w3.heap.size = w.heap.size + 3 := by rw [← hw3]; simp only [World.size_alloc]
  have hO : Only [] w w3 := hw3 ▸ (((Only.refl [] w).alloc _).alloc _).alloc _
  have h3 : ∀ i, i < 3 → w3.heap[w.heap.size + i]? = some (.cells (madeCells #[.int .i64 0] n) 3 (0, 0)) := by
    intro i hi
    have hi3 : i = 0 ∨ i = 1 ∨ i = 2 := by omega
    rw [← hw3]
    rcases hi3 with rfl | rfl | rfl
    · rw [heap_alloc_old _ _ (by simp only [World.size_alloc]; omega), heap_alloc_old _ _ (by simp only [World.size_alloc]; omega)]
      exact heap_alloc_new w _
    · rw [heap_alloc_old _ _ (by simp only [World.size_alloc]; omega)]
      have := heap_alloc_new (w.alloc (.cells (madeCells #[.int .i64 0] n) 3)) (.cells (madeCells #[.int .i64 0] n) 3)
      rwa [World.size_alloc] at this
    · have := heap_alloc_new ((w.alloc (.cells (madeCells #[.int .i64 0] n) 3)).alloc (.cells (madeCells #[.int .i64 0] n) 3)) (.cells (madeCells #[.int .i64 0] n) 3)
      simpa only [World.size_alloc] using this
  rw [hw3]
  have hk : ∀ (o : Obj) (i : Nat), i < 3 → (w3.alloc o).heap[w.heap.size + i]? = some (.cells (madeCells #[.int .i64 0] n) 3 (0, 0)) := fun o i hi => (heap_alloc_old _ _ (by omega)).trans (h3 i hi)
  refine ⟨_, _, _, _, rfl, ⟨by omega, by omega, by omega⟩, ⟨by omega, by omega, by omega, by omega⟩, ?_, made_row (hk _ a ha), made_row (hk _ b hb), made_row (hk _ c hc), (hO.alloc _).drewN _⟩
  have := heap_alloc_new w3 (.cells #[.pointer none, .slice (some ⟨w.heap.size + a, 0, none⟩) n n, .slice (some ⟨w.heap.size + b, 0, none⟩) n n, .slice (some ⟨w.heap.size + c, 0, none⟩) n n, .int .i64 n] 109)
  rwa [hsz] at this

/-- The rows after k rounds. -/
structure Filled (w : World) (n S U L Z k : Nat) (wr : World) : Prop where
  head : wr.heap[S]? = some (.cells #[.pointer (some ⟨S, 0, none⟩), .slice (some ⟨U, 0, none⟩) n n, .slice (some ⟨L, 0, none⟩) n n, .slice (some ⟨Z, 0, none⟩) n n, .int .i64 n] 109 (0, 0))
  rowU : Row wr U n (fun i => if i < k then i else 0)
  rowL : Row wr L n (fun i => if i < k then i else 0)
  rowZ : Row wr Z n (fun i => if i < k then 1 else 0)
  only : Only [] w wr

theorem Row.congr {w : World} {g n : Nat} {f f' : Nat → Nat} (h : Row w g n f) (e : ∀ i, i < n → f i = f' i) : Row w g n f' := RowGe.congr h fun i hi => by rw [e i hi]
theorem Filled.drew {w : World} {n S U L Z k : Nat} {wr : World} (h : Filled w n S U L Z k wr) : Filled w n S U L Z k wr.drew := ⟨h.head, h.rowU.same rfl, h.rowL.same rfl, h.rowZ.same rfl, h.only.drewN 1⟩
theorem Filled.step {w : World} {n S U L Z k : Nat} {wr : World} (h : Filled w n S U L Z k wr) (hSU : S ≠ U) (hSL : S ≠ L) (hSZ : S ≠ Z) (hUL : U ≠ L) (hUZ : U ≠ Z) (hLZ : L ≠ Z) (hw : w.heap.size ≤ U ∧ w.heap.size ≤ L ∧ w.heap.size ≤ Z) :
    Filled w n S U L Z (k + 1) (((wr.setCell ⟨U, k, none⟩ (.int .i64 k)).setCell ⟨L, k, none⟩ (.int .i64 k)).setCell ⟨Z, k, none⟩ (.int .i64 1)) := by
  refine ⟨head_other (head_other (head_other h.head hSU _) hSL _) hSZ _, ?_, ?_, ?_, ?_⟩
  · refine Row.congr (((h.rowU.put k k).set_other hUL _).set_other hUZ _) fun i _ => ?_
    simp only [put]; split <;> split <;> (try split) <;> omega
  · refine Row.congr (((h.rowL.set_other hUL.symm _).put k k).set_other hLZ _) fun i _ => ?_
    simp only [put]; split <;> split <;> (try split) <;> omega
  · refine Row.congr (((h.rowZ.set_other hUZ.symm _).set_other hLZ.symm _).put k 1) fun i _ => ?_
    simp only [put]; split <;> split <;> (try split) <;> omega
  · refine h.only.to ((((Only.refl [U, L, Z] wr).setCell (g := U) (by simp) _).setCell (g := L) (by simp) _).setCell (g := Z) (by simp) _) fun i hi hlt => ?_
    simp at hi; omega
theorem many_all (n : Nat) : (many n fun a => id a == a) = n := by
  unfold many
  rw [List.countP_eq_length.2 fun a _ => by simp, List.length_range]
theorem Filled.done {w : World} {n S U L Z : Nat} {wr : World} (h : Filled w n S U L Z n wr) (hn : n ≤ 65536) (hUL : U ≠ L) (hUZ : U ≠ Z) (hLZ : L ≠ Z) : DsuAt wr [S, U, L, Z] S n id := by
  refine ⟨U, L, Z, id, id, fun _ => 0, id, fun _ => 1, n, n, n, rfl, ?_, h.rowU.congr fun i hi => if_pos hi, h.rowL.congr fun i hi => if_pos hi, h.rowZ.congr fun i hi => if_pos hi, hUL, hUZ, hLZ, Forest.own _, hn, fun _ _ => rfl, fun a ha => ⟨ha, rfl⟩, fun a _ => Nat.le_refl _, fun r hr _ => ?_⟩
  · rw [many_all]; exact h.head
  · exact (many_one hr).symm

set_option maxRecDepth 100000 in
set_option maxHeartbeats 4000000 in
theorem DNew (n : Nat) (hn : n ≤ 65536) (w : World) : Calls Tryd.prog 25 #[.int .i64 n] w fun e w' => ∃ F S, e = .returned (.tuple #[.pointer (some ⟨S, 0, none⟩), .int .i64 0]) ∧ DsuAt w' F S n id ∧ (∀ k, k ∈ F → w.heap.size ≤ k) ∧ Only [] w w' := by
  have hmk := fun W => mk_ints n (by omega) W
  go_enter Tryd.func25, Tryd.ntmps25
  go_upto_region 3 with (fail)
  go_cut [4] from 12 (fun s wc => Start w n s wc)
  case first =>
    go_region
    all_goals
      go_wp2
      go_meet
    all_goals (first | exact start_of (a := 0) (b := 1) (c := 2) (by omega) (by omega) (by omega) (by omega) (by omega) (by omega) 1 | exact start_of (a := 0) (b := 2) (c := 1) (by omega) (by omega) (by omega) (by omega) (by omega) (by omega) 1 | exact start_of (a := 1) (b := 0) (c := 2) (by omega) (by omega) (by omega) (by omega) (by omega) (by omega) 1 | exact start_of (a := 1) (b := 2) (c := 0) (by omega) (by omega) (by omega) (by omega) (by omega) (by omega) 1 | exact start_of (a := 2) (b := 0) (c := 1) (by omega) (by omega) (by omega) (by omega) (by omega) (by omega) 1 | exact start_of (a := 2) (b := 1) (c := 0) (by omega) (by omega) (by omega) (by omega) (by omega) (by omega) 1)
  case rest =>
    obtain ⟨S, U, L, Z, rfl, ⟨hUL, hUZ, hLZ⟩, ⟨b1, b2, b3, b4⟩, hS, hU, hL, hZ, hO⟩ := hcut
    clear hmk
    have c0 := cell_of_heap (i := 0) hS rfl
    have z0 := frozen_of_heap (i := 0) hS
    have hne : ∀ {g : Nat} {f : Nat → Nat}, Row wc g n f → S ≠ g := fun hr e => by
      subst e
      obtain ⟨cs, hc⟩ := hr.heap
      rw [hS] at hc
      cases hc
    have hSU := hne hU
    have hSL := hne hL
    have hSZ := hne hZ
    have H0 := Lib.hid (show Filled w n S U L Z 0 (wc.setCell ⟨S, 0, none⟩ (.pointer (some ⟨S, 0, none⟩))) from
      ⟨heap_setCell_same wc S 0 _ 109 _ hS, (hU.set_other hSU.symm _), (hL.set_other hSL.symm _), (hZ.set_other hSZ.symm _), hO.to ((Only.refl [S] wc).setCell (by simp) _) (fun i hi hlt => by simp at hi; omega)⟩)
    have hUS := Ne.symm hSU
    have hLS := Ne.symm hSL
    have hZS := Ne.symm hSZ
    have hLU := Ne.symm hUL
    have hZU := Ne.symm hUZ
    have hZL := Ne.symm hLZ
    clear hS hU hL hZ hne hO
    go_wp2
    go_loopw [26] (fun i wr => ∃ k : Nat, k ≤ n ∧ i = .int .i64 k ∧ Hid (Filled w n S U L Z k wr)) (fun i _ => n - (intOf i).toNat)
    case atStart => exact ⟨0, Nat.zero_le _, rfl, H0⟩
    case round =>
      obtain ⟨k, hk, rfl, hf⟩ := hrel
      by_cases hlt : k < n
      · have s1 := cell_of_heap (i := 1) hf.out.head rfl
        have s2 := cell_of_heap (i := 2) hf.out.head rfl
        have s3 := cell_of_heap (i := 3) hf.out.head rfl
        replace s1 : wr.cell? ⟨S, 1, none⟩ = some (.slice (some ⟨U, 0, none⟩) n n) := s1
        replace s2 : wr.cell? ⟨S, 2, none⟩ = some (.slice (some ⟨L, 0, none⟩) n n) := s2
        replace s3 : wr.cell? ⟨S, 3, none⟩ = some (.slice (some ⟨Z, 0, none⟩) n n) := s3
        have d1 := hf.out.rowU.cell hlt
        have d2 := hf.out.rowL.cell hlt
        have d3 := hf.out.rowZ.cell hlt
        have z1 := hf.out.rowU.frozen k
        have z2 := hf.out.rowL.frozen k
        have z3 := hf.out.rowZ.frozen k
        rw [if_neg (Nat.lt_irrefl k)] at d1 d2 d3
        go_wp2
        go_region
        go_wp2
        go_roundw
        case rel => exact ⟨k + 1, by omega, by go_num, Lib.hid ((hf.out.step hSU hSL hSZ hUL hUZ hLZ ⟨b2, b3, b4⟩).drew)⟩
        case measure => simp [intOf]; omega
      · obtain rfl : k = n := by omega
        have HD := Lib.hid (hf.out.done hn hUL hUZ hLZ)
        have HO := Lib.hid hf.out.only
        clear hf
        go_wp2
        go_ret2
        exact ⟨[S, U, L, Z], S, rfl, HD.out, fun x hx => by simp at hx; omega, HO.out⟩

set_option maxRecDepth 100000 in
theorem DNew_bad (n : Int) (hn : n < 0 ∨ 65536 < n) (w : World) : Calls Tryd.prog 25 #[.int .i64 n] w fun e w' => e = .returned (.tuple #[.pointer none, .int .i64 2]) ∧ w = w' := by
  by_cases h0 : n < 0
  · have q : decide (n < 0) = true := decide_eq_true h0
    clear hn
    go_enter Tryd.func25, Tryd.ntmps25
    go_wp2_with fail
    go_ret2
    exact ⟨rfl, rfl⟩
  · have q : decide (n < 0) = false := decide_eq_false h0
    have h1 : 65536 < n := by omega
    clear hn
    go_enter Tryd.func25, Tryd.ntmps25
    go_wp2_with fail
    go_ret2
    exact ⟨rfl, rfl⟩

end Go.Proofs.YtipgbbhgmoehfaaDoor

/-
  Rows of int64; weights of sets (plain).
-/
namespace Go.Proofs.YtipgbbhgmoehfaaDoor
open Go.RowKit
set_option linter.unusedSimpArgs false
set_option linter.unusedSectionVars false

/-- A row of numbers of 64 bits. -/
def Row64 (w : World) (g n : Nat) (f : Nat → Nat) : Prop := RowGe w g 2 n (fun i => .int .i64 (f i))
theorem Row64.cell {w : World} {g n : Nat} {f : Nat → Nat} (h : Row64 w g n f) {i : Nat} (hi : i < n) : w.cell? ⟨g, i, none⟩ = some (.int .i64 (f i)) := by
  obtain ⟨c, hc, r⟩ := h
  exact cell_of_heap hc (r i hi)
theorem Row64.frozen {w : World} {g n : Nat} {f : Nat → Nat} (h : Row64 w g n f) (i : Nat) : w.frozen? ⟨g, i, none⟩ = false := by
  obtain ⟨c, hc, r⟩ := h
  exact frozen_of_heap hc
theorem Row64.heap {w : World} {g n : Nat} {f : Nat → Nat} (h : Row64 w g n f) : ∃ cs, w.heap[g]? = some (.cells cs 2 (0, 0)) := let ⟨c, hc, _⟩ := h; ⟨c, hc⟩
theorem Row64.lt {w : World} {g n : Nat} {f : Nat → Nat} (h : Row64 w g n f) : g < w.heap.size := let ⟨_, hc⟩ := h.heap; heap_lt hc
theorem Row64.put {w : World} {g n : Nat} {f : Nat → Nat} (h : Row64 w g n f) (i x : Nat) : Row64 (w.setCell ⟨g, i, none⟩ (.int .i64 x)) g n (put f i x) := by
  refine (RowGe.set h i (.int .i64 x)).congr fun j hj => ?_
  unfold Go.Proofs.YtipgbbhgmoehfaaDoor.put
  split <;> rfl
theorem Row64.same {w w' : World} {g n : Nat} {f : Nat → Nat} (h : Row64 w g n f) (hk : w'.heap[g]? = w.heap[g]?) : Row64 w' g n f := by
  obtain ⟨c, hc, r⟩ := h
  exact ⟨c, hk.trans hc, r⟩
theorem Row64.only {w w' : World} {g n : Nat} {f : Nat → Nat} {gs : List Nat} (h : Row64 w g n f) (ho : Only gs w w') (hg : g ∉ gs) : Row64 w' g n f := h.same (ho.block g h.lt hg)
theorem Row64.congr {w : World} {g n : Nat} {f f' : Nat → Nat} (h : Row64 w g n f) (e : ∀ i, i < n → f i = f' i) : Row64 w g n f' := RowGe.congr h fun i hi => by rw [e i hi]

/-- The sum of n numbers. -/
def total : Nat → (Nat → Nat) → Nat
  | 0, _ => 0
  | n + 1, f => total n f + f n
theorem total_congr {n : Nat} {f g : Nat → Nat} (h : ∀ a, a < n → f a = g a) : total n f = total n g := by
  induction n with
  | zero => rfl
  | succ n ih => rw [total, total, ih fun a ha => h a (by omega), h n (by omega)]
theorem total_add (n : Nat) (f g : Nat → Nat) : total n (fun a => f a + g a) = total n f + total n g := by
  induction n with
  | zero => rfl
  | succ n ih => simp only [total, ih]; omega
theorem total_le {n : Nat} {f g : Nat → Nat} (h : ∀ a, a < n → f a ≤ g a) : total n f ≤ total n g := by
  induction n with
  | zero => exact Nat.le_refl _
  | succ n ih => have := ih fun a ha => h a (by omega); have := h n (by omega); simp only [total]; omega
theorem total_zero (n : Nat) : total n (fun _ => 0) = 0 := by
  induction n with
  | zero => rfl
  | succ n ih => simp only [total, ih]
theorem total_at {n M : Nat} (hM : M < n) (c : Nat) : total n (fun a => if a = M then c else 0) = c := by
  induction n with
  | zero => omega
  | succ n ih =>
    by_cases e : M = n
    · subst e
      rw [total, if_pos rfl, total_congr (g := fun _ => 0) fun a ha => if_neg (by omega), total_zero]; omega
    · rw [total, ih (by omega), if_neg (by omega)]; rfl
theorem total_at_le {n M : Nat} (hM : M < n) (f : Nat → Nat) : f M ≤ total n f := by
  rw [← total_at hM (f M)]
  exact total_le fun a _ => by split <;> simp_all

/-- The weight of the set whose least element is x. -/
def sumOf (n : Nat) (lab wt : Nat → Nat) (x : Nat) : Nat := total n fun a => if lab a = x then wt a else 0
/-- How many sets have the weight v. -/
def setsV (n : Nat) (lab wt : Nat → Nat) (v : Int) : Nat := many n fun a => lab a == a && decide ((sumOf n lab wt a : Int) = v)
theorem sumOf_le (n : Nat) (lab wt : Nat → Nat) (x : Nat) : sumOf n lab wt x ≤ total n wt := total_le fun a _ => by split <;> omega
theorem setsV_le (n : Nat) (lab wt : Nat → Nat) (v : Int) : setsV n lab wt v ≤ n := many_le _ _
theorem setsV_pos {n : Nat} {lab wt : Nat → Nat} {x : Nat} (hx : x < n) (hl : lab x = x) : 1 ≤ setsV n lab wt (sumOf n lab wt x) := by
  have h : many n (fun a => a == x) ≤ setsV n lab wt (sumOf n lab wt x) := by
    refine List.countP_mono_left fun a _ h => ?_
    simp at h
    subst h
    simp [hl]
  rwa [many_one hx] at h

section
variable {n : Nat} {lab wt : Nat → Nat} {x y : Nat} (hx : x < n) (hy : y < n) (lx : lab x = x) (ly : lab y = y) (hxy : x < y)
include lx ly hxy
theorem mer_root (a : Nat) : (mer lab x y a == a) = ((lab a == a) && !(a == y)) := by
  unfold mer
  by_cases h1 : lab a = x
  · rw [if_pos (.inl h1), h1, Nat.min_eq_left (by omega)]
    by_cases e : x = a
    · subst e; simp; omega
    · have : (x == a) = false := by simpa using e
      simp [this]
  · by_cases h2 : lab a = y
    · rw [if_pos (.inr h2), h2, Nat.min_eq_left (by omega)]
      by_cases e : y = a
      · subst e; simp; omega
      · have : (y == a) = false := by simpa using e
        have : (x == a) = false := by
          simp; intro h; subst h; exact h1 lx
        simp [*]
    · rw [if_neg (by simp [h1, h2])]
      by_cases e : a = y
      · subst e; exact absurd ly h2
      · simp [e]
theorem sumOf_mer_x : sumOf n (mer lab x y) wt x = sumOf n lab wt x + sumOf n lab wt y := by
  unfold sumOf
  rw [← total_add]
  refine total_congr fun a _ => ?_
  unfold mer
  rw [Nat.min_eq_left (by omega)]
  by_cases h1 : lab a = x
  · simp [h1]; omega
  · by_cases h2 : lab a = y
    · simp [h2]; omega
    · simp [h1, h2]
theorem sumOf_mer_z {z : Nat} (h1 : z ≠ x) (h2 : z ≠ y) : sumOf n (mer lab x y) wt z = sumOf n lab wt z := by
  unfold sumOf
  refine total_congr fun a _ => ?_
  unfold mer
  rw [Nat.min_eq_left (by omega)]
  by_cases e1 : lab a = x
  · have e3 : lab a = x ∨ lab a = y := .inl e1
    rw [if_pos e3, if_neg (by omega), if_neg (by omega)]
  · by_cases e2 : lab a = y
    · have e3 : lab a = x ∨ lab a = y := .inr e2
      rw [if_pos e3, if_neg (by omega), if_neg (by omega)]
    · have e3 : ¬ (lab a = x ∨ lab a = y) := by simp [e1, e2]
      rw [if_neg e3]
include hx hy
theorem setsV_mer (v : Int) : setsV n (mer lab x y) wt v + (if (sumOf n lab wt x : Int) = v then 1 else 0) + (if (sumOf n lab wt y : Int) = v then 1 else 0) = setsV n lab wt v + if (sumOf n lab wt x + sumOf n lab wt y : Int) = v then 1 else 0 := by
  have hone : ∀ (M : Nat) (hM : M < n) (c : Prop) [Decidable c], many n (fun a => a == M && decide c) = if c then 1 else 0 := by
    intro M hM c _
    by_cases hc : c
    · rw [if_pos hc, ← many_one hM]
      exact many_congr fun a _ => by simp [hc]
    · rw [if_neg hc]
      simp [many, hc]
  have e1 := many_add (n := n) (p := fun a => (lab a == a && decide ((sumOf n lab wt a : Int) = v)) && (!(a == x) && !(a == y))) (q := fun a => a == x && decide ((sumOf n lab wt x : Int) = v)) (r := fun a => (lab a == a && decide ((sumOf n lab wt a : Int) = v)) && !(a == y)) fun a _ => by
    by_cases h : a = x
    · subst h; simp [lx, show a ≠ y by omega]
    · simp [h]
  have e2 := many_add (n := n) (p := fun a => (lab a == a && decide ((sumOf n lab wt a : Int) = v)) && !(a == y)) (q := fun a => a == y && decide ((sumOf n lab wt y : Int) = v)) (r := fun a => lab a == a && decide ((sumOf n lab wt a : Int) = v)) fun a _ => by
    by_cases h : a = y
    · subst h; simp [ly]
    · simp [h]
  have e3 := many_add (n := n) (p := fun a => (lab a == a && decide ((sumOf n lab wt a : Int) = v)) && (!(a == x) && !(a == y))) (q := fun a => a == x && decide (((sumOf n lab wt x + sumOf n lab wt y : Nat) : Int) = v)) (r := fun a => mer lab x y a == a && decide ((sumOf n (mer lab x y) wt a : Int) = v)) fun a _ => by
    rw [mer_root lx ly hxy]
    by_cases h : a = x
    · subst h; rw [sumOf_mer_x lx ly hxy]; simp [lx, show a ≠ y by omega]
    · by_cases h2 : a = y
      · subst h2; simp [h]
      · rw [sumOf_mer_z lx ly hxy h h2]; simp [h, h2]
  rw [hone x hx] at e1
  rw [hone y hy] at e2
  rw [hone x hx] at e3
  unfold setsV
  rw [← Int.natCast_add]
  omega
end

end Go.Proofs.YtipgbbhgmoehfaaDoor

/-
  The numbers of a bag as a list: ranks, the sequence, what putting does to them (plain).
-/
namespace Go.Proofs.YtipgbbhgmoehfaaDoor

/-- How many are smaller. -/
def lrank (x : Int) : Items → Nat
  | [] => 0
  | p :: l => (if p.1 < x then p.2 else 0) + lrank x l
def lkth : Items → Nat → Int
  | [], _ => 0
  | p :: l, k => if k < p.2 then p.1 else lkth l (k - p.2)
theorem lrank_append (x : Int) (a b : Items) : lrank x (a ++ b) = lrank x a + lrank x b := by
  induction a with
  | nil => simp [lrank]
  | cons p a ih => simp only [List.cons_append, lrank, ih]; omega
theorem lrank_all {x : Int} {l : Items} (h : ∀ p ∈ l, p.1 < x) : lrank x l = T.szL l := by
  induction l with
  | nil => rfl
  | cons p l ih => simp only [lrank, T.szL, if_pos (h p List.mem_cons_self), ih fun q hq => h q (List.mem_cons_of_mem _ hq)]
theorem lrank_none {x : Int} {l : Items} (h : ∀ p ∈ l, x ≤ p.1) : lrank x l = 0 := by
  induction l with
  | nil => rfl
  | cons p l ih =>
    have := h p List.mem_cons_self
    simp only [lrank, if_neg (show ¬ p.1 < x by omega), ih fun q hq => h q (List.mem_cons_of_mem _ hq)]
theorem rank_items (x : Int) (t : T) (h : Sorted t.items) : t.rank x = lrank x t.items := by
  induction t with
  | leaf => rfl
  | node g l y u r ihl ihr =>
    obtain ⟨h1, h2, h3, h4⟩ := sorted_split h
    simp only [T.rank, T.items, lrank_append, lrank]
    split
    · rename_i hle
      rw [ihl h1, if_neg (by omega), lrank_none (l := r.items) fun p hp => by have : y < p.1 := h4 p hp; omega]
      omega
    · rename_i hgt
      rw [ihr h2, if_pos (by omega), lrank_all (l := l.items) fun p hp => by have : p.1 < y := h3 p hp; omega, T.sz_items]
      omega
theorem lkth_append (a b : Items) (k : Nat) : lkth (a ++ b) k = if k < T.szL a then lkth a k else lkth b (k - T.szL a) := by
  induction a generalizing k with
  | nil => simp [T.szL]
  | cons p a ih =>
    have e : T.szL (p :: a) = p.2 + T.szL a := rfl
    rw [e]
    simp only [List.cons_append, lkth, ih]
    split
    · rw [if_pos (by omega)]
    · split
      · rw [if_pos (by omega)]
      · rw [if_neg (by omega), Nat.sub_sub]
theorem kth_items (t : T) (k : Nat) (hk : k < t.sz) : t.kth k = lkth t.items k := by
  induction t generalizing k with
  | leaf => simp [T.sz] at hk
  | node g l y u r ihl ihr =>
    simp only [T.sz] at hk
    simp only [T.kth, T.items, lkth_append, lkth, ← T.sz_items]
    by_cases h1 : k < l.sz
    · rw [if_pos h1, if_pos h1, ihl k h1]
    · rw [if_neg h1, if_neg h1]
      by_cases h2 : k < l.sz + u
      · rw [if_pos h2, if_pos (by omega)]
      · rw [if_neg h2, if_neg (by omega), ihr _ (by omega), show k - (l.sz + u) = k - l.sz - u by omega]
theorem lkth_mem {l : Items} {k : Nat} (hk : k < T.szL l) : ∃ n, (lkth l k, n) ∈ l := by
  induction l generalizing k with
  | nil => simp [T.szL] at hk
  | cons p l ih =>
    simp only [T.szL] at hk
    simp only [lkth]
    by_cases h : k < p.2
    · rw [if_pos h]; exact ⟨p.2, List.mem_cons_self⟩
    · rw [if_neg h]
      obtain ⟨n, hn⟩ := ih (k := k - p.2) (by omega)
      exact ⟨n, List.mem_cons_of_mem _ hn⟩
theorem lkth_rank {l : Items} {k : Nat} (h : Sorted l) (hk : k < T.szL l) : lrank (lkth l k) l ≤ k ∧ k < lrank (lkth l k) l + lcnt (lkth l k) l := by
  induction l generalizing k with
  | nil => simp [T.szL] at hk
  | cons p l ih =>
    have h2 := List.pairwise_cons.1 h
    simp only [T.szL] at hk
    simp only [lkth]
    by_cases hp : k < p.2
    · rw [if_pos hp]
      simp only [lrank, lcnt, if_pos, if_neg (show ¬ p.1 < p.1 by omega)]
      rw [lrank_none fun q hq => by have := h2.1 q hq; omega]
      omega
    · rw [if_neg hp]
      obtain ⟨n, hn⟩ := lkth_mem (l := l) (k := k - p.2) (by omega)
      have hlt := h2.1 _ hn
      have ih := ih h2.2 (k := k - p.2) (by omega)
      simp only [lrank, lcnt]
      rw [if_pos hlt, if_neg (by have : p.1 < lkth l (k - p.2) := hlt; omega)]
      omega
theorem lkth_mono {l : Items} {k m : Nat} (h : Sorted l) (hk : k ≤ m) (hm : m < T.szL l) : lkth l k ≤ lkth l m := by
  induction l generalizing k m with
  | nil => simp [T.szL] at hm
  | cons p l ih =>
    have h2 := List.pairwise_cons.1 h
    simp only [T.szL] at hm
    simp only [lkth]
    by_cases h3 : m < p.2
    · rw [if_pos h3, if_pos (by omega)]; exact Int.le_refl _
    · rw [if_neg h3]
      by_cases h4 : k < p.2
      · rw [if_pos h4]
        obtain ⟨n, hn⟩ := lkth_mem (l := l) (k := m - p.2) (by omega)
        have := h2.1 _ hn
        exact Int.le_of_lt this
      · rw [if_neg h4]
        exact ih h2.2 (by omega) (by omega)

theorem lcnt_lput {x y : Int} {n : Nat} {l : Items} (h : Sorted l) : lcnt y (lput x n l) = if y = x then n else lcnt y l := by
  induction l with
  | nil =>
    simp only [lput]
    split
    · rename_i h0; subst h0; simp [lcnt]
    · by_cases hy : y = x
      · subst hy; simp [lcnt]
      · rw [if_neg hy]; simp only [lcnt]; rw [if_neg (fun e => hy e.symm)]
  | cons p l ih =>
    have h2 := List.pairwise_cons.1 h
    have ih := ih h2.2
    simp only [lput]
    by_cases h1 : p.1 < x
    · rw [if_pos h1]
      simp only [lcnt, ih]
      by_cases hy : y = x
      · rw [if_pos hy, if_neg (by omega), if_pos hy]
      · rw [if_neg hy, if_neg hy]
    · rw [if_neg h1]
      by_cases h3 : p.1 = x
      · rw [if_pos h3]
        by_cases hy : y = x
        · rw [if_pos hy]
          split
          · rename_i h0
            rw [h0]
            exact lcnt_none fun q hq => by have := h2.1 q hq; omega
          · simp only [lcnt]; rw [if_pos hy.symm]
        · rw [if_neg hy]
          by_cases hn : n = 0
          · rw [if_pos hn, lcnt, if_neg (by omega)]
          · rw [if_neg hn, lcnt, lcnt, if_neg (fun e => hy e.symm), if_neg (by omega)]
      · rw [if_neg h3]
        have hx : lcnt x (p :: l) = 0 := lcnt_none fun q hq => by
          rcases List.mem_cons.1 hq with rfl | hq
          · exact h3
          · have := h2.1 q hq; omega
        by_cases hy : y = x
        · rw [if_pos hy]
          split
          · rename_i h0; rw [h0, hy]; exact hx
          · simp only [lcnt]; rw [if_pos hy.symm]
        · rw [if_neg hy]
          split
          · rfl
          · rw [lcnt, if_neg (fun e => hy e.symm)]
theorem lrank_lput {x y : Int} {n : Nat} {l : Items} (h : Sorted l) : lrank y (lput x n l) + (if x < y then lcnt x l else 0) = lrank y l + if x < y then n else 0 := by
  induction l with
  | nil =>
    simp only [lput]
    split
    · rename_i h0; subst h0; simp [lrank, lcnt]
    · simp [lrank, lcnt]
  | cons p l ih =>
    have h2 := List.pairwise_cons.1 h
    have ih := ih h2.2
    simp only [lput]
    by_cases h1 : p.1 < x
    · rw [if_pos h1]
      simp only [lrank, lcnt, if_neg (show ¬ p.1 = x by omega)]
      omega
    · rw [if_neg h1]
      by_cases h3 : p.1 = x
      · rw [if_pos h3]
        subst h3
        have hx : lcnt p.1 (p :: l) = p.2 := by simp [lcnt]
        rw [hx]
        split
        · rename_i h0; subst h0; simp only [lrank, ite_self]; omega
        · simp only [lrank]; omega
      · rw [if_neg h3]
        have hx : lcnt x (p :: l) = 0 := lcnt_none fun q hq => by
          rcases List.mem_cons.1 hq with rfl | hq
          · exact h3
          · have := h2.1 q hq; omega
        rw [hx]
        split
        · rename_i h0; subst h0; simp
        · simp only [lrank]; split <;> omega
/-- A sorted list of positive counts is known by its counts. -/
theorem items_ext {a b : Items} (ha : Sorted a) (hb : Sorted b) (pa : ∀ p ∈ a, 1 ≤ p.2) (pb : ∀ p ∈ b, 1 ≤ p.2) (h : ∀ x, lcnt x a = lcnt x b) : a = b := by
  induction a generalizing b with
  | nil =>
    cases b with
    | nil => rfl
    | cons q b =>
      have := h q.1
      simp only [lcnt, if_true] at this
      have := pb q List.mem_cons_self
      omega
  | cons p a ih =>
    cases b with
    | nil =>
      have := h p.1
      simp only [lcnt, if_true] at this
      have := pa p List.mem_cons_self
      omega
    | cons q b =>
      have ha2 := List.pairwise_cons.1 ha
      have hb2 := List.pairwise_cons.1 hb
      have hp := pa p List.mem_cons_self
      have hq := pb q List.mem_cons_self
      have e1 : p.1 = q.1 := by
        have h1 := h p.1
        have h2 := h q.1
        simp only [lcnt, if_true] at h1 h2
        by_cases hlt : p.1 < q.1
        · rw [if_neg (by omega), lcnt_none (l := b) fun r hr => by have := hb2.1 r hr; omega] at h1
          omega
        · by_cases hgt : q.1 < p.1
          · rw [if_neg (by omega), lcnt_none (l := a) fun r hr => by have := ha2.1 r hr; omega] at h2
            omega
          · omega
      have e2 : p.2 = q.2 := by
        have h1 := h p.1
        simp only [lcnt, if_true] at h1
        rw [if_pos e1.symm] at h1
        exact h1
      obtain ⟨px, pn⟩ := p
      obtain ⟨qx, qn⟩ := q
      simp only at e1 e2
      subst e1 e2
      rw [ih ha2.2 hb2.2 (fun r hr => pa r (List.mem_cons_of_mem _ hr)) (fun r hr => pb r (List.mem_cons_of_mem _ hr)) (fun x => ?_)]
      have h1 := h x
      simp only [lcnt] at h1
      by_cases hx : px = x
      · subst hx
        rw [lcnt_none (l := a) fun r hr => by have := ha2.1 r hr; omega, lcnt_none (l := b) fun r hr => by have := hb2.1 r hr; omega]
      · rw [if_neg hx, if_neg hx] at h1
        exact h1

end Go.Proofs.YtipgbbhgmoehfaaDoor

/-
  Bags of lists, and the weights of sets (plain).
-/
namespace Go.Proofs.YtipgbbhgmoehfaaDoor
open Go.RowKit
set_option linter.unusedSimpArgs false

theorem tSum_lput {x : Int} {n : Nat} {l : Items} (h : Sorted l) : itSum (lput x n l) + x * (lcnt x l : Nat) = itSum l + x * n := by
  induction l with
  | nil =>
    simp only [lput]
    split
    · rename_i h0; subst h0; simp [itSum, lcnt]
    · simp [itSum, lcnt]
  | cons p l ih =>
    have h2 := List.pairwise_cons.1 h
    have ih := ih h2.2
    simp only [lput]
    by_cases h1 : p.1 < x
    · rw [if_pos h1]
      simp only [itSum, lcnt, if_neg (show ¬ p.1 = x by omega)]
      omega
    · rw [if_neg h1]
      by_cases h3 : p.1 = x
      · rw [if_pos h3]
        subst h3
        have hx : lcnt p.1 (p :: l) = p.2 := by simp [lcnt]
        rw [hx]
        split
        · rename_i h0; subst h0; simp only [itSum]; simp; omega
        · simp only [itSum]; omega
      · rw [if_neg h3]
        have hx : lcnt x (p :: l) = 0 := lcnt_none fun q hq => by
          rcases List.mem_cons.1 hq with rfl | hq
          · exact h3
          · have := h2.1 q hq; omega
        rw [hx]
        split
        · rename_i h0; subst h0; simp
        · simp only [itSum]; simp; omega
theorem tSq_lput {x : Int} {n : Nat} {l : Items} (h : Sorted l) : itSq (lput x n l) + x.natAbs * x.natAbs * lcnt x l = itSq l + x.natAbs * x.natAbs * n := by
  induction l with
  | nil =>
    simp only [lput]
    split
    · rename_i h0; subst h0; simp [itSq, lcnt]
    · simp [itSq, lcnt]
  | cons p l ih =>
    have h2 := List.pairwise_cons.1 h
    have ih := ih h2.2
    simp only [lput]
    by_cases h1 : p.1 < x
    · rw [if_pos h1]
      simp only [itSq, lcnt, if_neg (show ¬ p.1 = x by omega)]
      omega
    · rw [if_neg h1]
      by_cases h3 : p.1 = x
      · rw [if_pos h3]
        subst h3
        have hx : lcnt p.1 (p :: l) = p.2 := by simp [lcnt]
        rw [hx]
        split
        · rename_i h0; subst h0; simp only [itSq]; simp; omega
        · simp only [itSq]; omega
      · rw [if_neg h3]
        have hx : lcnt x (p :: l) = 0 := lcnt_none fun q hq => by
          rcases List.mem_cons.1 hq with rfl | hq
          · exact h3
          · have := h2.1 q hq; omega
        rw [hx]
        split
        · rename_i h0; subst h0; simp
        · simp only [itSq]; simp; omega


/-- One more of v. -/
def add1 (L : Items) (v : Int) : Items := lput v (lcnt v L + 1) L
/-- The numbers of a list, with how often each is there. -/
def bagOf (l : List Int) : Items := l.foldl add1 []
def cntL (x : Int) (l : List Int) : Nat := l.countP fun y => decide (y = x)
def sqL : List Int → Nat
  | [] => 0
  | v :: l => v.natAbs * v.natAbs + sqL l
def sumL : List Int → Int
  | [] => 0
  | v :: l => v + sumL l
theorem bagOf_snoc (l : List Int) (v : Int) : bagOf (l ++ [v]) = add1 (bagOf l) v := by simp [bagOf, List.foldl_append]
theorem add1_pos {L : Items} (h : ∀ p ∈ L, 1 ≤ p.2) (v : Int) : ∀ p ∈ add1 L v, 1 ≤ p.2 := lput_pos h
theorem fold_all (l : List Int) : ∀ L : Items, Sorted L → (∀ p ∈ L, 1 ≤ p.2) → Sorted (l.foldl add1 L) ∧ (∀ p ∈ l.foldl add1 L, 1 ≤ p.2) ∧ (∀ x, lcnt x (l.foldl add1 L) = lcnt x L + cntL x l) ∧ T.szL (l.foldl add1 L) = T.szL L + l.length ∧
    itSq (l.foldl add1 L) = itSq L + sqL l ∧ itSum (l.foldl add1 L) = itSum L + sumL l ∧ (∀ p ∈ l.foldl add1 L, p ∈ L ∨ p.1 ∈ l ∨ ∃ q ∈ L, q.1 = p.1) := by
  induction l with
  | nil => exact fun L h p => ⟨h, p, fun x => by simp [cntL], by simp, by simp [sqL], by simp [sumL], fun p hp => .inl hp⟩
  | cons v l ih =>
    intro L h p
    obtain ⟨a1, a2, a3, a4, a5, a6, a7⟩ := ih (add1 L v) (lput_sorted h) (add1_pos p v)
    refine ⟨a1, a2, fun x => ?_, ?_, ?_, ?_, fun q hq => ?_⟩
    · show lcnt x (l.foldl add1 (add1 L v)) = _
      rw [a3 x]
      unfold add1
      rw [lcnt_lput h]
      unfold cntL
      rw [List.countP_cons]
      by_cases e : x = v
      · subst e; simp; omega
      · rw [if_neg e, if_neg (by simpa using fun h : v = x => e h.symm)]; rfl
    · show T.szL (l.foldl add1 (add1 L v)) = _
      have := lput_sz (x := v) (n := lcnt v L + 1) h
      rw [a4]
      unfold add1
      simp only [List.length_cons]
      omega
    · show itSq (l.foldl add1 (add1 L v)) = _
      have := tSq_lput (x := v) (n := lcnt v L + 1) h
      rw [Nat.mul_add, Nat.mul_one] at this
      rw [a5]
      unfold add1
      simp only [sqL]
      omega
    · show itSum (l.foldl add1 (add1 L v)) = _
      have := tSum_lput (x := v) (n := lcnt v L + 1) h
      rw [Int.natCast_add, Int.mul_add] at this
      rw [a6]
      unfold add1
      simp only [sumL]
      omega
    · rcases a7 q hq with h7 | h7 | ⟨r, hr, h7⟩
      · rcases lput_mem h7 with ⟨rfl, _⟩ | h8
        · exact .inr (.inl (by simp))
        · exact .inl h8
      · exact .inr (.inl (List.mem_cons_of_mem _ h7))
      · rcases lput_mem hr with ⟨rfl, _⟩ | h8
        · exact .inr (.inl (by rw [← h7]; simp))
        · exact .inr (.inr ⟨r, h8, h7⟩)
theorem nilS : Sorted ([] : Items) := List.Pairwise.nil
theorem nilP : ∀ p ∈ ([] : Items), 1 ≤ p.2 := fun p hp => by simp at hp
theorem bagOf_sorted (l : List Int) : Sorted (bagOf l) := (fold_all l [] nilS nilP).1
theorem bagOf_pos (l : List Int) : ∀ p ∈ bagOf l, 1 ≤ p.2 := (fold_all l [] nilS nilP).2.1
theorem bagOf_cnt (l : List Int) (x : Int) : lcnt x (bagOf l) = cntL x l := by
  have := (fold_all l [] nilS nilP).2.2.1 x
  rw [show lcnt x [] = 0 from rfl, Nat.zero_add] at this
  exact this
theorem bagOf_sz (l : List Int) : T.szL (bagOf l) = l.length := by
  have := (fold_all l [] nilS nilP).2.2.2.1
  rw [show T.szL [] = 0 from rfl, Nat.zero_add] at this
  exact this
theorem bagOf_sq (l : List Int) : itSq (bagOf l) = sqL l := by
  have := (fold_all l [] nilS nilP).2.2.2.2.1
  rw [show itSq [] = 0 from rfl, Nat.zero_add] at this
  exact this
theorem bagOf_sum (l : List Int) : itSum (bagOf l) = sumL l := by
  have := (fold_all l [] nilS nilP).2.2.2.2.2.1
  rw [show itSum [] = 0 from rfl, Int.zero_add] at this
  exact this
theorem bagOf_mem {l : List Int} {p : Int × Nat} (h : p ∈ bagOf l) : p.1 ∈ l := by
  rcases (fold_all l [] nilS nilP).2.2.2.2.2.2 p h with h | h | ⟨q, h, _⟩
  · simp at h
  · exact h
  · simp at h
theorem bagOf_has {l : List Int} {v : Int} (h : v ∈ l) : ∃ n, (v, n) ∈ bagOf l := by
  have h1 : 0 < cntL v l := List.countP_pos_iff.2 ⟨v, h, by simp⟩
  rw [← bagOf_cnt] at h1
  generalize bagOf l = L at h1
  induction L with
  | nil => exact absurd h1 (by simp [lcnt])
  | cons p L ih =>
    simp only [lcnt] at h1
    by_cases e : p.1 = v
    · exact ⟨p.2, by rw [← e]; exact List.mem_cons_self⟩
    · rw [if_neg e] at h1
      obtain ⟨n, hn⟩ := ih h1
      exact ⟨n, List.mem_cons_of_mem _ hn⟩

/-- The weights of the sets, in the order of their least elements. -/
def setsL (n : Nat) (lab wt : Nat → Nat) : List Int := ((List.range n).filter fun a => lab a == a).map fun a => (sumOf n lab wt a : Int)
theorem setsL_len (n : Nat) (lab wt : Nat → Nat) : (setsL n lab wt).length = many n fun a => lab a == a := by
  unfold setsL many
  rw [List.length_map, List.countP_eq_length_filter]
theorem setsL_cnt (n : Nat) (lab wt : Nat → Nat) (v : Int) : cntL v (setsL n lab wt) = setsV n lab wt v := by
  unfold setsL setsV many cntL
  rw [List.countP_map, List.countP_filter]
  refine congrArg (fun p => List.countP p _) (funext fun a => ?_)
  simp [Bool.and_comm]
theorem setsL_mem {n : Nat} {lab wt : Nat → Nat} {v : Int} (h : v ∈ setsL n lab wt) : ∃ a, a < n ∧ lab a = a ∧ v = (sumOf n lab wt a : Int) := by
  unfold setsL at h
  obtain ⟨a, ha, rfl⟩ := List.mem_map.1 h
  have := List.mem_filter.1 ha
  exact ⟨a, List.mem_range.1 this.1, by simpa using this.2, rfl⟩
theorem setsL_of {n : Nat} {lab wt : Nat → Nat} {a : Nat} (h : a < n) (hl : lab a = a) : (sumOf n lab wt a : Int) ∈ setsL n lab wt := by
  unfold setsL
  exact List.mem_map.2 ⟨a, List.mem_filter.2 ⟨List.mem_range.2 h, by simpa using hl⟩, rfl⟩

/-- The last of the numbers. -/
def lastV (L : Items) : Int := lkth L (T.szL L - 1)
theorem lkth_nil (k : Nat) : lkth [] k = 0 := rfl
theorem lastV_mem {L : Items} (h : 0 < T.szL L) : ∃ n, (lastV L, n) ∈ L := lkth_mem (by omega)
theorem lrank_cnt_le {x : Int} {l : Items} (h : Sorted l) {p : Int × Nat} (hp : p ∈ l) (hx : x < p.1) : lrank x l + lcnt x l + p.2 ≤ T.szL l := by
  induction l with
  | nil => simp at hp
  | cons q l ih =>
    have h2 := List.pairwise_cons.1 h
    simp only [lrank, lcnt, T.szL]
    rcases List.mem_cons.1 hp with rfl | hp
    · rw [if_neg (by omega), if_neg (by omega), lrank_none fun q hq => by have := h2.1 q hq; omega, lcnt_none fun q hq => by have := h2.1 q hq; omega]
      omega
    · have := ih h2.2 hp
      have hq := h2.1 p hp
      by_cases e : q.1 = x
      · rw [if_pos e, if_neg (by omega)]
        have h0 : lcnt x l = 0 := lcnt_none fun r hr => by have := h2.1 r hr; omega
        omega
      · rw [if_neg e]
        split <;> omega
theorem lastV_max {L : Items} (h : Sorted L) (hp : ∀ p ∈ L, 1 ≤ p.2) {q : Int × Nat} (hq : q ∈ L) : q.1 ≤ lastV L := by
  have h0 : 0 < T.szL L := by have := cnt_le_szL hq; have := hp q hq; omega
  have h1 := lkth_rank h (k := T.szL L - 1) (by omega)
  refine Int.not_lt.1 fun hlt => ?_
  have h2 := lrank_cnt_le h hq hlt
  have h3 := hp q hq
  unfold lastV at h2
  omega

end Go.Proofs.YtipgbbhgmoehfaaDoor

/-
  Tallies as they lie in memory; what they show.
-/
namespace Go.Proofs.YtipgbbhgmoehfaaDoor
open Go.RowKit
set_option linter.unusedSimpArgs false
set_option linter.unusedSectionVars false

theorem total_swap (m : Nat) (f : Nat → Nat → Nat) (n : Nat) : total n (fun x => total m fun a => f x a) = total m fun a => total n fun x => f x a := by
  induction n with
  | zero => exact (total_zero m).symm
  | succ n ih => simp only [total]; rw [ih, ← total_add]
theorem sumL_append (a b : List Int) : sumL (a ++ b) = sumL a + sumL b := by
  induction a with
  | nil => simp [sumL]
  | cons v a ih => simp only [List.cons_append, sumL, ih]; omega
theorem sumL_filter (f : Nat → Nat) (p : Nat → Bool) (n : Nat) : sumL (((List.range n).filter p).map fun a => (f a : Int)) = (total n fun a => if p a then f a else 0 : Nat) := by
  induction n with
  | zero => rfl
  | succ n ih =>
    rw [List.range_succ, List.filter_append, List.map_append, sumL_append, ih, total]
    by_cases h : p n
    · rw [List.filter_cons_of_pos h, if_pos h]; simp [sumL]
    · rw [List.filter_cons_of_neg h, if_neg h]; simp [sumL]
theorem setsL_sum {n : Nat} {lab wt : Nat → Nat} (h : ∀ a, a < n → lab a < n ∧ lab (lab a) = lab a) : sumL (setsL n lab wt) = (total n wt : Nat) := by
  unfold setsL
  rw [sumL_filter]
  congr 1
  have : (total n fun a => if (lab a == a) = true then sumOf n lab wt a else 0) = total n fun x => total n fun a => if lab x = x ∧ lab a = x then wt a else 0 := by
    refine total_congr fun x _ => ?_
    by_cases e : lab x = x
    · rw [if_pos (by simpa using e)]
      unfold sumOf
      exact total_congr fun a _ => by simp [e]
    · rw [if_neg (by simpa using e)]
      exact ((total_congr fun a _ => by simp [e]).trans (total_zero n)).symm
  rw [this, total_swap]
  refine total_congr fun a ha => ?_
  have h2 := h a ha
  refine Eq.trans (total_congr (g := fun x => if x = lab a then wt a else 0) fun x _ => ?_) (total_at h2.1 _)
  by_cases e : x = lab a
  · subst e; simp [h2.2]
  · rw [if_neg e, if_neg (fun h => e h.2.symm)]
theorem sqL_le {l : List Int} (h : ∀ v ∈ l, 0 ≤ v) : ∃ S : Nat, sumL l = S ∧ sqL l ≤ S * S := by
  induction l with
  | nil => exact ⟨0, rfl, by simp [sqL]⟩
  | cons v l ih =>
    obtain ⟨S, h1, h2⟩ := ih fun v hv => h v (List.mem_cons_of_mem _ hv)
    have h0 := h v List.mem_cons_self
    refine ⟨v.natAbs + S, by simp only [sumL, h1]; omega, ?_⟩
    simp only [sqL, Nat.add_mul, Nat.mul_add]
    omega

section
end

end Go.Proofs.YtipgbbhgmoehfaaDoor

/-
  Weight of a tally; what a union makes of the bag (plain).
-/
namespace Go.Proofs.YtipgbbhgmoehfaaDoor
open Go.RowKit
set_option linter.unusedSimpArgs false
set_option linter.unusedSectionVars false

theorem three {a b : Int → Nat} {p q v : Int} (g1 : 1 ≤ a p) (g2 : 1 ≤ if q = p then a p - 1 else a q) (h : b v + (if p = v then 1 else 0) + (if q = v then 1 else 0) = a v + if p + q = v then 1 else 0) :
    (if v = p + q then (if p + q = q then (if q = p then a p - 1 else a q) - 1 else if p + q = p then a p - 1 else a (p + q)) + 1 else if v = q then (if q = p then a p - 1 else a q) - 1 else if v = p then a p - 1 else a v) = b v := by
  have e1 : q = p → a q = a p := fun e => by rw [e]
  have e2 : p + q = q → a (p + q) = a q := fun e => by rw [e]
  have e3 : p + q = p → a (p + q) = a p := fun e => by rw [e]
  have e4 : v = p + q → a v = a (p + q) := fun e => by rw [e]
  have e5 : v = q → a v = a q := fun e => by rw [e]
  have e6 : v = p → a v = a p := fun e => by rw [e]
  generalize a (p + q) = az at *
  generalize a v = av at *
  generalize b v = bv at *
  generalize a q = aq at *
  generalize a p = ap at *
  (repeat' split) <;> (repeat' split at g2) <;> (repeat' split at h) <;> omega

section
variable {n : Nat} {lab wt : Nat → Nat} {x y : Nat} (hx : x < n) (hy : y < n) (lx : lab x = x) (ly : lab y = y) (hxy : x < y)
include hx hy lx ly hxy
theorem items_union {L L1 L2 L3 : Items} {vx vy : Nat} (hL : L = bagOf (setsL n lab wt)) (ex : vx = sumOf n lab wt x) (ey : vy = sumOf n lab wt y) (h1 : L1 = lput vx (lcnt vx L - 1) L) (h2 : L2 = lput vy (lcnt vy L1 - 1) L1)
    (h3 : L3 = lput (vx + vy) (lcnt (vx + vy) L2 + 1) L2) : 1 ≤ lcnt vx L ∧ 1 ≤ lcnt vy L1 ∧ L3 = bagOf (setsL n (mer lab x y) wt) := by
  have s0 : Sorted L := hL ▸ bagOf_sorted _
  have s1 : Sorted L1 := h1 ▸ lput_sorted s0
  have s2 : Sorted L2 := h2 ▸ lput_sorted s1
  have s3 : Sorted L3 := h3 ▸ lput_sorted s2
  have p0 : ∀ p ∈ L, 1 ≤ p.2 := hL ▸ bagOf_pos _
  have p1 : ∀ p ∈ L1, 1 ≤ p.2 := h1 ▸ lput_pos p0
  have p2 : ∀ p ∈ L2, 1 ≤ p.2 := h2 ▸ lput_pos p1
  have p3 : ∀ p ∈ L3, 1 ≤ p.2 := h3 ▸ lput_pos p2
  have c0 : ∀ v, lcnt v L = setsV n lab wt v := fun v => by rw [hL, bagOf_cnt, setsL_cnt]
  have hm := fun v => setsV_mer (wt := wt) hx hy lx ly hxy v
  rw [← ex, ← ey] at hm
  have hp : 1 ≤ setsV n (mer lab x y) wt (vx + vy : Nat) := by
    have e := sumOf_mer_x (n := n) (wt := wt) lx ly hxy
    have := setsV_pos (wt := wt) (n := n) (lab := mer lab x y) hx (by have := mer_root lx ly hxy x; rw [lx] at this; rw [Bool.eq_iff_iff] at this; simp [show x ≠ y by omega] at this; exact this)
    rwa [e, ← ex, ← ey] at this
  have c1 : ∀ v, lcnt v L1 = if v = vx then setsV n lab wt vx - 1 else setsV n lab wt v := fun v => by rw [h1, lcnt_lput s0, c0, c0]
  have c2 : ∀ v, lcnt v L2 = if v = vy then lcnt vy L1 - 1 else lcnt v L1 := fun v => by rw [h2, lcnt_lput s1]
  have c3 : ∀ v, lcnt v L3 = if v = (vx + vy : Int) then lcnt (vx + vy : Int) L2 + 1 else lcnt v L2 := fun v => by rw [h3, lcnt_lput s2]
  have g1 : 1 ≤ lcnt vx L := by rw [c0, ex]; exact setsV_pos hx lx
  have g2 : 1 ≤ lcnt vy L1 := by
    rw [c1]
    have hmy := hm vy
    rw [if_pos (rfl : (vy : Int) = vy)] at hmy
    by_cases e : (vy : Int) = vx
    · rw [if_pos e]
      rw [if_pos e.symm] at hmy
      rw [← e]
      by_cases e2 : (vx + vy : Int) = vy
      · rw [Int.natCast_add, e2] at hp
        rw [if_pos e2] at hmy
        omega
      · rw [if_neg e2] at hmy
        omega
    · rw [if_neg e, ey]; exact setsV_pos hy ly
  refine ⟨g1, g2, items_ext s3 (bagOf_sorted _) p3 (bagOf_pos _) fun v => ?_⟩
  rw [bagOf_cnt, setsL_cnt]
  rw [c1] at g2
  rw [c3, c2, c2, c1, c1, c1]
  rw [c0 vx] at g1
  exact three g1 g2 (hm v)
end

section
end

end Go.Proofs.YtipgbbhgmoehfaaDoor

/-
  Unions of labels: their order, their count, the squares and the greatest weight (plain).
-/
namespace Go.Proofs.YtipgbbhgmoehfaaDoor
set_option linter.unusedSimpArgs false
set_option linter.unusedSectionVars false

/-- Labels: each one's set is named by an element at or below it, which names itself. -/
def Labs (n : Nat) (lab : Nat → Nat) : Prop := ∀ a, a < n → lab a ≤ a ∧ lab (lab a) = lab a
def uni (lab : Nat → Nat) (p : Nat × Nat) : Nat → Nat := mer lab (lab p.1) (lab p.2)
theorem Labs.id (n : Nat) : Labs n id := fun _ _ => ⟨Nat.le_refl _, rfl⟩
theorem Labs.lt {n : Nat} {lab : Nat → Nat} (h : Labs n lab) {a : Nat} (ha : a < n) : lab a < n := Nat.lt_of_le_of_lt (h a ha).1 ha
theorem Labs.uni {n : Nat} {lab : Nat → Nat} (h : Labs n lab) {p : Nat × Nat} (h1 : p.1 < n) (h2 : p.2 < n) : Labs n (uni lab p) := by
  intro a ha
  have ha1 := h a ha
  have p1 := h p.1 h1
  have p2 := h p.2 h2
  unfold Go.Proofs.YtipgbbhgmoehfaaDoor.uni mer
  generalize lab p.1 = x at *
  generalize lab p.2 = y at *
  generalize hA : lab a = A at *
  constructor
  · split <;> omega
  · by_cases e : A = x ∨ A = y
    · simp only [if_pos e]
      rcases Nat.le_total x y with hle | hle
      · rw [Nat.min_eq_left hle, p1.2]; simp
      · rw [Nat.min_eq_right hle, p2.2]; simp
    · simp only [if_neg e]
      rw [ha1.2, if_neg e]
theorem uni_comm (lab : Nat → Nat) (p q : Nat × Nat) : uni (uni lab p) q = uni (uni lab q) p := by
  funext c
  unfold uni mer
  generalize lab p.1 = x
  generalize lab p.2 = y
  generalize lab q.1 = u
  generalize lab q.2 = v
  generalize lab c = z
  grind
theorem foldl_swap (l : List (Nat × Nat)) (lab : Nat → Nat) (p : Nat × Nat) : l.foldl uni (uni lab p) = uni (l.foldl uni lab) p := by
  induction l generalizing lab with
  | nil => rfl
  | cons q l ih => simp only [List.foldl_cons]; rw [uni_comm, ih]
theorem foldl_reverse (l : List (Nat × Nat)) (lab : Nat → Nat) : l.reverse.foldl uni lab = l.foldl uni lab := by
  induction l generalizing lab with
  | nil => rfl
  | cons q l ih => rw [List.reverse_cons, List.foldl_append, ih]; simp only [List.foldl_cons, List.foldl_nil]; rw [foldl_swap]
theorem foldl_perm {l m : List (Nat × Nat)} (h : l.Perm m) : ∀ lab : Nat → Nat, l.foldl uni lab = m.foldl uni lab := by
  induction h with
  | nil => exact fun _ => rfl
  | cons p _ ih => exact fun lab => by simp only [List.foldl_cons]; exact ih _
  | swap p q l => exact fun lab => by simp only [List.foldl_cons]; rw [uni_comm]
  | trans _ _ ih1 ih2 => exact fun lab => (ih1 lab).trans (ih2 lab)
theorem Labs.fold {n : Nat} (l : List (Nat × Nat)) : ∀ {lab : Nat → Nat}, Labs n lab → (∀ p ∈ l, p.1 < n ∧ p.2 < n) → Labs n (l.foldl Go.Proofs.YtipgbbhgmoehfaaDoor.uni lab) := by
  induction l with
  | nil => exact fun h _ => h
  | cons p l ih =>
    intro lab h hp
    have := hp p List.mem_cons_self
    exact ih (h.uni this.1 this.2) fun q hq => hp q (List.mem_cons_of_mem _ hq)

/-- How many sets there are. -/
def roots (n : Nat) (lab : Nat → Nat) : Nat := many n fun a => lab a == a
theorem roots_uni {n : Nat} {lab : Nat → Nat} (h : Labs n lab) {p : Nat × Nat} (h1 : p.1 < n) (h2 : p.2 < n) (hne : lab p.1 ≠ lab p.2) : roots n (uni lab p) + 1 = roots n lab := by
  obtain ⟨x, y, hxy, hx, hy, lx, ly, hm⟩ : ∃ x y, x < y ∧ x < n ∧ y < n ∧ lab x = x ∧ lab y = y ∧ uni lab p = mer lab x y := by
    rcases Nat.lt_or_gt_of_ne hne with hl | hl
    · exact ⟨lab p.1, lab p.2, hl, h.lt h1, h.lt h2, (h _ h1).2, (h _ h2).2, rfl⟩
    · exact ⟨lab p.2, lab p.1, hl, h.lt h2, h.lt h1, (h _ h2).2, (h _ h1).2, mer_comm _ _ _⟩
  rw [hm, ← many_one hy]
  unfold roots
  refine many_add fun a _ => ?_
  rw [mer_root lx ly hxy]
  by_cases e : a = y
  · subst e; simp [ly]
  · simp [e]
/-- How many of these unions unite different sets. -/
def win (lab : Nat → Nat) (p : Nat × Nat) : Nat := if lab p.1 = lab p.2 then 0 else 1
def wins (lab : Nat → Nat) : List (Nat × Nat) → Nat
  | [] => 0
  | p :: l => win lab p + wins (uni lab p) l
theorem wins_snoc (l : List (Nat × Nat)) (p : Nat × Nat) : ∀ lab : Nat → Nat, wins lab (l ++ [p]) = wins lab l + win (l.foldl uni lab) p := by
  induction l with
  | nil => intro lab; simp [wins]
  | cons q l ih => intro lab; simp only [List.cons_append, wins, ih, List.foldl_cons]; omega
theorem uni_same {lab : Nat → Nat} {p : Nat × Nat} (h : lab p.1 = lab p.2) : uni lab p = lab := by
  funext c
  unfold uni mer
  rw [h]
  split
  · rename_i e; rcases e with e | e <;> omega
  · rfl
theorem wins_roots {n : Nat} (l : List (Nat × Nat)) : ∀ {lab : Nat → Nat}, Labs n lab → (∀ p ∈ l, p.1 < n ∧ p.2 < n) → roots n (l.foldl uni lab) + wins lab l = roots n lab := by
  induction l with
  | nil => exact fun _ _ => rfl
  | cons p l ih =>
    intro lab h hp
    have h0 := hp p List.mem_cons_self
    have := ih (h.uni h0.1 h0.2) fun q hq => hp q (List.mem_cons_of_mem _ hq)
    simp only [List.foldl_cons, wins, win]
    by_cases e : lab p.1 = lab p.2
    · rw [if_pos e]
      rw [uni_same e] at this ⊢
      omega
    · rw [if_neg e]
      have := roots_uni h h0.1 h0.2 e
      omega
theorem roots_le (n : Nat) (lab : Nat → Nat) : roots n lab ≤ n := many_le _ _
theorem roots_id (n : Nat) : roots n id = n := many_all n
theorem wins_le (l : List (Nat × Nat)) : ∀ lab : Nat → Nat, wins lab l ≤ l.length := by
  induction l with
  | nil => exact fun _ => Nat.le_refl _
  | cons p l ih => intro lab; have := ih (uni lab p); simp only [wins, win, List.length_cons]; split <;> omega

/-- The squares of the sets' weights. -/
theorem sqL_append (a b : List Int) : sqL (a ++ b) = sqL a + sqL b := by
  induction a with
  | nil => simp [sqL]
  | cons v a ih => simp only [List.cons_append, sqL, ih]; omega
def squares (n : Nat) (lab wt : Nat → Nat) : Nat := total n fun a => if lab a = a then sumOf n lab wt a * sumOf n lab wt a else 0
theorem sqL_filter (f : Nat → Nat) (p : Nat → Bool) (n : Nat) : sqL (((List.range n).filter p).map fun a => (f a : Int)) = total n fun a => if p a then f a * f a else 0 := by
  induction n with
  | zero => rfl
  | succ n ih =>
    rw [List.range_succ, List.filter_append, List.map_append, sqL_append, ih, total]
    by_cases h : p n
    · rw [List.filter_cons_of_pos h, if_pos h]; simp [sqL]
    · rw [List.filter_cons_of_neg h, if_neg h]; simp [sqL]
theorem sqL_sets (n : Nat) (lab wt : Nat → Nat) : sqL (setsL n lab wt) = squares n lab wt := by
  unfold setsL squares
  rw [sqL_filter]
  exact total_congr fun a _ => by simp
theorem total_two {n x y : Nat} {f g : Nat → Nat} (hx : x < n) (hy : y < n) (hxy : x ≠ y) (h : ∀ a, a < n → a ≠ x → a ≠ y → f a = g a) : total n f + g x + g y = total n g + f x + f y := by
  have e1 : total n f = total n (fun a => if a = x ∨ a = y then 0 else f a) + f x + f y := by
    rw [← total_at hx (f x), ← total_at hy (f y), ← total_add, ← total_add]
    refine total_congr fun a _ => ?_
    grind
  have e2 : total n g = total n (fun a => if a = x ∨ a = y then 0 else g a) + g x + g y := by
    rw [← total_at hx (g x), ← total_at hy (g y), ← total_add, ← total_add]
    refine total_congr fun a _ => ?_
    grind
  have e3 : total n (fun a => if a = x ∨ a = y then 0 else f a) = total n (fun a => if a = x ∨ a = y then 0 else g a) := total_congr fun a ha => by
    by_cases e : a = x ∨ a = y
    · rw [if_pos e, if_pos e]
    · rw [if_neg e, if_neg e]; exact h a ha (fun h => e (.inl h)) (fun h => e (.inr h))
  omega
theorem squares_mer {n : Nat} {lab wt : Nat → Nat} {x y : Nat} (hx : x < n) (hy : y < n) (lx : lab x = x) (ly : lab y = y) (hxy : x < y) :
    squares n (mer lab x y) wt = squares n lab wt + 2 * (sumOf n lab wt x * sumOf n lab wt y) := by
  have h := total_two (n := n) (x := x) (y := y) (f := fun a => if mer lab x y a = a then sumOf n (mer lab x y) wt a * sumOf n (mer lab x y) wt a else 0) (g := fun a => if lab a = a then sumOf n lab wt a * sumOf n lab wt a else 0) hx hy (by omega) fun a _ h1 h2 => by
    have hr := mer_root (lab := lab) lx ly hxy a
    have e : (mer lab x y a = a) = (lab a = a) := by
      rw [Bool.eq_iff_iff] at hr
      simp [h2] at hr
      exact propext hr
    simp only [e, sumOf_mer_z (n := n) (wt := wt) lx ly hxy h1 h2]
  have mx : mer lab x y x = x := by unfold mer; rw [lx]; simp; omega
  have my : mer lab x y y = x := by unfold mer; rw [ly]; simp; omega
  simp only [mx, my, lx, ly, if_true, if_neg (show ¬ x = y by omega), sumOf_mer_x (n := n) (wt := wt) lx ly hxy] at h
  unfold squares
  have : (sumOf n lab wt x + sumOf n lab wt y) * (sumOf n lab wt x + sumOf n lab wt y) = sumOf n lab wt x * sumOf n lab wt x + sumOf n lab wt y * sumOf n lab wt y + 2 * (sumOf n lab wt x * sumOf n lab wt y) := by
    rw [Nat.add_mul, Nat.mul_add, Nat.mul_add, Nat.mul_comm (sumOf n lab wt y) (sumOf n lab wt x)]; omega
  omega

/-- The greatest of numbers, 0 if there is none. -/
def maxL : List Int → Int
  | [] => 0
  | v :: l => max v (maxL l)
theorem maxL_ge {l : List Int} {v : Int} (h : v ∈ l) : v ≤ maxL l := by
  induction l with
  | nil => simp at h
  | cons u l ih =>
    simp only [maxL]
    rcases List.mem_cons.1 h with rfl | h
    · omega
    · have := ih h; omega
theorem maxL_nonneg (l : List Int) : 0 ≤ maxL l := by
  induction l with
  | nil => exact Int.le_refl _
  | cons u l ih => simp only [maxL]; omega
theorem maxL_le {l : List Int} {m : Int} (h0 : 0 ≤ m) (h : ∀ v ∈ l, v ≤ m) : maxL l ≤ m := by
  induction l with
  | nil => exact h0
  | cons u l ih =>
    have := ih fun v hv => h v (List.mem_cons_of_mem _ hv)
    have := h u List.mem_cons_self
    simp only [maxL]; omega
theorem lastV_maxL {l : List Int} (h : ∀ v ∈ l, 0 ≤ v) : lastV (bagOf l) = maxL l := by
  refine Int.le_antisymm ?_ ?_
  · by_cases h0 : 0 < T.szL (bagOf l)
    · obtain ⟨n, hn⟩ := lastV_mem h0
      exact maxL_ge (bagOf_mem hn)
    · have : bagOf l = [] := by
        cases e : bagOf l with
        | nil => rfl
        | cons p L =>
          have hp := bagOf_pos l p (by rw [e]; exact List.mem_cons_self)
          rw [e] at h0
          simp only [T.szL] at h0
          omega
      rw [this]
      exact maxL_nonneg l
  · by_cases h0 : 0 < T.szL (bagOf l)
    · obtain ⟨n, hn⟩ := lastV_mem h0
      refine maxL_le (h _ (bagOf_mem hn)) fun v hv => ?_
      obtain ⟨m, hm⟩ := bagOf_has hv
      exact lastV_max (bagOf_sorted l) (bagOf_pos l) hm
    · rw [bagOf_sz] at h0
      have : l = [] := List.length_eq_zero_iff.1 (by omega)
      subst this
      decide
theorem setsL_nonneg {n : Nat} {lab wt : Nat → Nat} : ∀ v ∈ setsL n lab wt, 0 ≤ v := fun v hv => by obtain ⟨_, _, _, rfl⟩ := setsL_mem hv; omega
/-- The greatest weight of a set. -/
def largest (n : Nat) (lab wt : Nat → Nat) : Int := maxL (setsL n lab wt)
theorem largest_mer {n : Nat} {lab wt : Nat → Nat} {x y : Nat} (hx : x < n) (hy : y < n) (lx : lab x = x) (ly : lab y = y) (hxy : x < y) :
    largest n (mer lab x y) wt = max (largest n lab wt) (sumOf n lab wt x + sumOf n lab wt y : Nat) := by
  unfold largest
  refine Int.le_antisymm (maxL_le (by have := maxL_nonneg (setsL n lab wt); omega) fun v hv => ?_) ?_
  · obtain ⟨a, ha, hl, rfl⟩ := setsL_mem hv
    have hr := mer_root (lab := lab) lx ly hxy a
    rw [Bool.eq_iff_iff] at hr
    simp [hl] at hr
    by_cases e : a = x
    · subst e; rw [sumOf_mer_x (n := n) (wt := wt) lx ly hxy]; omega
    · rw [sumOf_mer_z (n := n) (wt := wt) lx ly hxy e hr.2]
      have := maxL_ge (setsL_of (wt := wt) ha hr.1)
      omega
  · have mx : mer lab x y x = x := by unfold mer; rw [lx]; simp; omega
    have h1 := maxL_ge (setsL_of (wt := wt) hx mx)
    rw [sumOf_mer_x (n := n) (wt := wt) lx ly hxy] at h1
    have h2 : maxL (setsL n lab wt) ≤ maxL (setsL n (mer lab x y) wt) := by
      refine maxL_le (maxL_nonneg _) fun v hv => ?_
      obtain ⟨a, ha, hl, rfl⟩ := setsL_mem hv
      by_cases e1 : a = x
      · subst e1; omega
      · by_cases e2 : a = y
        · subst e2; omega
        · rw [← sumOf_mer_z (n := n) (wt := wt) lx ly hxy e1 e2]
          refine maxL_ge (setsL_of ha ?_)
          have hr := mer_root (lab := lab) lx ly hxy a
          rw [Bool.eq_iff_iff] at hr
          simp [hl, e2] at hr
          exact hr
    omega
/-- What a union of different sets changes. -/
theorem uni_facts {n : Nat} {lab : Nat → Nat} (h : Labs n lab) (wt : Nat → Nat) {a b : Nat} (ha : a < n) (hb : b < n) (hne : lab a ≠ lab b) :
    sumOf n (uni lab (a, b)) wt (uni lab (a, b) a) = sumOf n lab wt (lab a) + sumOf n lab wt (lab b) ∧ uni lab (a, b) a = uni lab (a, b) b ∧
    squares n (uni lab (a, b)) wt = squares n lab wt + 2 * (sumOf n lab wt (lab a) * sumOf n lab wt (lab b)) ∧
    largest n (uni lab (a, b)) wt = max (largest n lab wt) (sumOf n lab wt (lab a) + sumOf n lab wt (lab b) : Nat) := by
  have e1 : uni lab (a, b) a = min (lab a) (lab b) := by simp [uni, mer]
  have e2 : uni lab (a, b) b = min (lab a) (lab b) := by simp [uni, mer]
  rcases Nat.lt_or_gt_of_ne hne with hl | hl
  · have hx := h.lt ha
    have hy := h.lt hb
    refine ⟨?_, by rw [e1, e2], squares_mer hx hy (h a ha).2 (h b hb).2 hl, largest_mer hx hy (h a ha).2 (h b hb).2 hl⟩
    rw [e1, Nat.min_eq_left (by omega)]
    exact sumOf_mer_x (h a ha).2 (h b hb).2 hl
  · have hx := h.lt hb
    have hy := h.lt ha
    have em : uni lab (a, b) = mer lab (lab b) (lab a) := mer_comm _ _ _
    refine ⟨?_, by rw [e1, e2], ?_, ?_⟩
    · rw [e1, Nat.min_eq_right (by omega), em, sumOf_mer_x (h b hb).2 (h a ha).2 hl]; omega
    · rw [em, squares_mer hx hy (h b hb).2 (h a ha).2 hl, Nat.mul_comm (sumOf n lab wt (lab b))]
    · rw [em, largest_mer hx hy (h b hb).2 (h a ha).2 hl]; congr 2; omega

end Go.Proofs.YtipgbbhgmoehfaaDoor

/-
  The row of a graph by least labels (plain).
-/
namespace Go.Proofs.YtipgbbhgmoehfaaDoor
set_option linter.unusedSimpArgs false

/-- Labels that agree along some edges. -/
def Agrees (E : List (Nat × Nat)) (l : Nat → Nat) : Prop := ∀ p ∈ E, l p.1 = l p.2
theorem fold_agrees {l : Nat → Nat} (E : List (Nat × Nat)) : ∀ {lab : Nat → Nat}, (∀ a b, lab a = lab b → l a = l b) → Agrees E l → ∀ a b, (E.foldl uni lab) a = (E.foldl uni lab) b → l a = l b := by
  induction E with
  | nil => exact fun h _ => h
  | cons p E ih =>
    intro lab h hE
    refine ih (fun a b hab => ?_) fun q hq => hE q (List.mem_cons_of_mem _ hq)
    have hp := hE p List.mem_cons_self
    unfold uni mer at hab
    by_cases ha : lab a = lab p.1 ∨ lab a = lab p.2
    · have la : l a = l p.1 := ha.elim (h _ _) fun e => (h _ _ e).trans hp.symm
      by_cases hb : lab b = lab p.1 ∨ lab b = lab p.2
      · exact la.trans (hb.elim (h _ _) fun e => (h _ _ e).trans hp.symm).symm
      · rw [if_pos ha, if_neg hb] at hab
        exact absurd (by omega) hb
    · by_cases hb : lab b = lab p.1 ∨ lab b = lab p.2
      · rw [if_neg ha, if_pos hb] at hab
        exact absurd (by omega) ha
      · rw [if_neg ha, if_neg hb] at hab
        exact h _ _ hab
theorem uni_joins (lab : Nat → Nat) (p : Nat × Nat) : uni lab p p.1 = uni lab p p.2 := by simp [uni, mer]
theorem uni_keeps {lab : Nat → Nat} {a b : Nat} (h : lab a = lab b) (p : Nat × Nat) : uni lab p a = uni lab p b := by simp [uni, mer, h]
theorem fold_keeps (E : List (Nat × Nat)) : ∀ {lab : Nat → Nat} {a b : Nat}, lab a = lab b → (E.foldl uni lab) a = (E.foldl uni lab) b := by
  induction E with
  | nil => exact fun h => h
  | cons p E ih => exact fun h => ih (uni_keeps h p)
theorem fold_joins (E : List (Nat × Nat)) : ∀ (lab : Nat → Nat) {p : Nat × Nat}, p ∈ E → (E.foldl uni lab) p.1 = (E.foldl uni lab) p.2 := by
  induction E with
  | nil => exact fun _ _ h => by simp at h
  | cons q E ih =>
    intro lab p hp
    rcases List.mem_cons.1 hp with rfl | hp
    · exact fold_keeps E (uni_joins lab p)
    · exact ih _ hp
/-- Labels on their way: each names an element of its component, at or below it. -/
def Inner (n : Nat) (lab l : Nat → Nat) : Prop := ∀ a, a < n → l a ≤ a ∧ lab (l a) = lab a
theorem Inner.start (n : Nat) (lab : Nat → Nat) : Inner n lab id := fun _ _ => ⟨Nat.le_refl _, rfl⟩
theorem Inner.step {n : Nat} {lab l : Nat → Nat} (h : Inner n lab l) {u v : Nat} (hu : u < n) (hv : v < n) (he : lab u = lab v) : Inner n lab (put (put l u (min (l u) (l v))) v (min (l u) (l v))) := by
  have h1 := h u hu
  have h2 := h v hv
  have hm : lab (min (l u) (l v)) = lab u := by
    rcases Nat.le_total (l u) (l v) with e | e
    · rw [Nat.min_eq_left e]; exact h1.2
    · rw [Nat.min_eq_right e, h2.2, he]
  intro a ha
  unfold put
  by_cases e : a = v
  · subst e
    rw [if_pos rfl]
    exact ⟨by omega, hm.trans he⟩
  · rw [if_neg e]
    by_cases e2 : a = u
    · subst e2
      rw [if_pos rfl]
      exact ⟨by omega, hm⟩
    · rw [if_neg e2]; exact h a ha
theorem put_less {n : Nat} {l : Nat → Nat} {u v : Nat} (hu : u < n) (hv : v < n) (hne : l u ≠ l v) : total n (put (put l u (min (l u) (l v))) v (min (l u) (l v))) < total n l := by
  have huv : u ≠ v := fun e => hne (by rw [e])
  have key : ∀ m, (∀ a, put (put l u (min (l u) (l v))) v (min (l u) (l v)) a ≤ l a) ∧ total m (put (put l u (min (l u) (l v))) v (min (l u) (l v))) ≤ total m l ∧ ((u < m ∧ v < m) → total m (put (put l u (min (l u) (l v))) v (min (l u) (l v))) < total m l) := by
    have hle : ∀ a, put (put l u (min (l u) (l v))) v (min (l u) (l v)) a ≤ l a := fun a => by
      unfold put
      by_cases e : a = v
      · subst e; rw [if_pos rfl]; omega
      · rw [if_neg e]
        by_cases e2 : a = u
        · subst e2; rw [if_pos rfl]; omega
        · rw [if_neg e2]; exact Nat.le_refl _
    have hw : put (put l u (min (l u) (l v))) v (min (l u) (l v)) u < l u ∨ put (put l u (min (l u) (l v))) v (min (l u) (l v)) v < l v := by
      unfold put
      rw [if_neg huv, if_pos rfl, if_pos rfl]
      omega
    intro m
    refine ⟨hle, total_le fun a _ => hle a, fun h => ?_⟩
    have mono : ∀ (w : Nat), w < m → put (put l u (min (l u) (l v))) v (min (l u) (l v)) w < l w → total m (put (put l u (min (l u) (l v))) v (min (l u) (l v))) < total m l := by
      clear h hw
      induction m with
      | zero => intro w hw; omega
      | succ m ih =>
        intro w hw hlt
        simp only [total]
        have h1 := hle m
        by_cases e : w = m
        · subst e
          have : total w (put (put l u (min (l u) (l v))) v (min (l u) (l v))) ≤ total w l := total_le fun a _ => hle a
          omega
        · have := ih w (by omega) hlt
          omega
    rcases hw with hw | hw
    · exact mono u h.1 hw
    · exact mono v h.2 hw
  exact (key n).2.2 ⟨hu, hv⟩
/-- At the end they are the least elements. -/
theorem Inner.done {n : Nat} {E : List (Nat × Nat)} {l : Nat → Nat} (hL : Labs n (E.foldl uni id)) (h : Inner n (E.foldl uni id) l) (hE : Agrees E l) : ∀ a, a < n → l a = (E.foldl uni id) a := by
  intro a ha
  obtain ⟨h1, h2⟩ := h a ha
  obtain ⟨g1, g2⟩ := hL a ha
  have hlt : (E.foldl uni id) a < n := by omega
  have e1 : l a = l ((E.foldl uni id) a) := fold_agrees E (fun a b e => congrArg l (show a = b from e)) hE _ _ g2.symm
  have e2 := (h _ hlt).1
  have e3 := (hL (l a) (by omega)).1
  rw [h2] at e3
  omega
/-- What a row shows, after the elements below k. -/
def sqTo (n k : Nat) (lab wt : Nat → Nat) : Nat := total k fun a => if lab a = a then sumOf n lab wt a * sumOf n lab wt a else 0
theorem sqTo_all (n : Nat) (lab wt : Nat → Nat) : sqTo n n lab wt = squares n lab wt := rfl
theorem sqTo_succ (n k : Nat) (lab wt : Nat → Nat) : sqTo n (k + 1) lab wt = sqTo n k lab wt + if lab k = k then sumOf n lab wt k * sumOf n lab wt k else 0 := rfl
def bigTo (n k : Nat) (lab wt : Nat → Nat) : Int := maxL (((List.range k).filter fun a => lab a == a).map fun a => (sumOf n lab wt a : Int))
theorem bigTo_all (n : Nat) (lab wt : Nat → Nat) : bigTo n n lab wt = largest n lab wt := rfl
theorem maxL_append (a b : List Int) (hb : 0 ≤ maxL b) : maxL (a ++ b) = max (maxL a) (maxL b) := by
  induction a with
  | nil => simp only [List.nil_append, maxL]; omega
  | cons v a ih => simp only [List.cons_append, maxL, ih]; omega
theorem bigTo_succ (n k : Nat) (lab wt : Nat → Nat) : bigTo n (k + 1) lab wt = if lab k = k then max (bigTo n k lab wt) (sumOf n lab wt k : Nat) else bigTo n k lab wt := by
  unfold bigTo
  rw [List.range_succ, List.filter_append, List.map_append, maxL_append _ _ (maxL_nonneg _)]
  have h0 := maxL_nonneg (((List.range k).filter fun a => lab a == a).map fun a => (sumOf n lab wt a : Int))
  by_cases e : lab k = k
  · rw [if_pos e, List.filter_cons_of_pos (by simpa using e)]
    simp only [List.filter_nil, List.map_cons, List.map_nil, maxL]
    omega
  · rw [if_neg e, List.filter_cons_of_neg (by simpa using e)]
    simp only [List.filter_nil, List.map_nil, maxL]
    omega
theorem bigTo_nonneg (n k : Nat) (lab wt : Nat → Nat) : 0 ≤ bigTo n k lab wt := maxL_nonneg _
/-- The weight of x's set among the elements below k. -/
def sumTo (k : Nat) (lab wt : Nat → Nat) (x : Nat) : Nat := total k fun a => if lab a = x then wt a else 0
theorem sumTo_all (n : Nat) (lab wt : Nat → Nat) (x : Nat) : sumTo n lab wt x = sumOf n lab wt x := rfl
theorem sumTo_succ (k : Nat) (lab wt : Nat → Nat) (x : Nat) : sumTo (k + 1) lab wt x = sumTo k lab wt x + if lab k = x then wt k else 0 := rfl
theorem sumTo_low {n k : Nat} {lab wt : Nat → Nat} (h : Labs n lab) {x : Nat} (hk : k ≤ x) (hx : x ≤ n) : sumTo k lab wt x = 0 := by
  unfold sumTo
  rw [total_congr (g := fun _ => 0) fun a ha => if_neg (by have := (h a (by omega)).1; omega), total_zero]
theorem rootsTo_succ (k : Nat) (lab : Nat → Nat) : roots (k + 1) lab = roots k lab + if lab k = k then 1 else 0 := by
  unfold roots
  rw [many_succ]
  by_cases e : lab k = k
  · rw [if_pos (by simpa using e), if_pos e]
  · rw [if_neg (by simpa using e), if_neg e]

end Go.Proofs.YtipgbbhgmoehfaaDoor
