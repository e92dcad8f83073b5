/-
  Tallies as they lie in memory; what they show.
-/
import Derived.Test.YtbafacdknaopjaaD8
namespace Go.Proofs.Ytbafacdknaopjaa
open Go.RowKit
set_option linter.unusedSimpArgs false
set_option linter.unusedSectionVars false

theorem total_swap (m : Nat) (f : Nat → Nat → Nat) (n : Nat) : total n (fun x => total m fun a => f x a) = total m fun a => total n fun x => f x a := by
  induction n with
  | zero => exact (total_zero m).symm
  | succ n ih => simp only [total]; rw [ih, ← total_add]
theorem sumL_append (a b : List Int) : sumL (a ++ b) = sumL a + sumL b := by
  induction a with
  | nil => simp [sumL]
  | cons v a ih => simp only [List.cons_append, sumL, ih]; omega
theorem sumL_filter (f : Nat → Nat) (p : Nat → Bool) (n : Nat) : sumL (((List.range n).filter p).map fun a => (f a : Int)) = (total n fun a => if p a then f a else 0 : Nat) := by
  induction n with
  | zero => rfl
  | succ n ih =>
    rw [List.range_succ, List.filter_append, List.map_append, sumL_append, ih, total]
    by_cases h : p n
    · rw [List.filter_cons_of_pos h, if_pos h]; simp [sumL]
    · rw [List.filter_cons_of_neg h, if_neg h]; simp [sumL]
theorem setsL_sum {n : Nat} {lab wt : Nat → Nat} (h : ∀ a, a < n → lab a < n ∧ lab (lab a) = lab a) : sumL (setsL n lab wt) = (total n wt : Nat) := by
  unfold setsL
  rw [sumL_filter]
  congr 1
  have : (total n fun a => if (lab a == a) = true then sumOf n lab wt a else 0) = total n fun x => total n fun a => if lab x = x ∧ lab a = x then wt a else 0 := by
    refine total_congr fun x _ => ?_
    by_cases e : lab x = x
    · rw [if_pos (by simpa using e)]
      unfold sumOf
      exact total_congr fun a _ => by simp [e]
    · rw [if_neg (by simpa using e)]
      exact ((total_congr fun a _ => by simp [e]).trans (total_zero n)).symm
  rw [this, total_swap]
  refine total_congr fun a ha => ?_
  have h2 := h a ha
  refine Eq.trans (total_congr (g := fun x => if x = lab a then wt a else 0) fun x _ => ?_) (total_at h2.1 _)
  by_cases e : x = lab a
  · subst e; simp [h2.2]
  · rw [if_neg e, if_neg (fun h => e h.2.symm)]
theorem sqL_le {l : List Int} (h : ∀ v ∈ l, 0 ≤ v) : ∃ S : Nat, sumL l = S ∧ sqL l ≤ S * S := by
  induction l with
  | nil => exact ⟨0, rfl, by simp [sqL]⟩
  | cons v l ih =>
    obtain ⟨S, h1, h2⟩ := ih fun v hv => h v (List.mem_cons_of_mem _ hv)
    have h0 := h v List.mem_cons_self
    refine ⟨v.natAbs + S, by simp only [sumL, h1]; omega, ?_⟩
    simp only [sqL, Nat.add_mul, Nat.mul_add]
    omega

/-- A tally lies in these blocks; lab: the least element of each one's set; wt: the weight of each element. -/
structure Tal (W : World) (A G S B : Nat) (Fd : List Nat) (t : T) (f : Nat → Nat) (cg n : Nat) (lab wt : Nat → Nat) : Prop where
  head : W.heap[A]? = some (.cells #[.pointer (some ⟨A, 0, none⟩), .pointer (some ⟨S, 0, none⟩), .slice (some ⟨G, 0, none⟩) n cg, .pointer (some ⟨B, 0, none⟩)] 65 (0, 0))
  row : Row64 W G n f
  sets : DsuAt W Fd S n lab
  bag : Bag W B t
  nd : (A :: G :: (Fd ++ B :: t.blocks)).Nodup
  val : ∀ x, x < n → lab x = x → f x = sumOf n lab wt x
  items : t.items = bagOf (setsL n lab wt)
  low : total n wt ≤ 3037000499
def TalAt (W : World) (F : List Nat) (A n : Nat) (lab wt : Nat → Nat) : Prop := ∃ G S B Fd t f cg, F = A :: G :: (Fd ++ B :: t.blocks) ∧ Tal W A G S B Fd t f cg n lab wt

theorem tally_info : Try.prog.info? 65 = some ((Try.prog.info? 65).getD default) := by kernel_rfl

section
variable {W : World} {A G S B : Nat} {Fd : List Nat} {t : T} {f : Nat → Nat} {cg n : Nat} {lab wt : Nat → Nat} (h : Tal W A G S B Fd t f cg n lab wt)
include h
theorem Tal.c : W.cell? ⟨A, 1, none⟩ = some (.pointer (some ⟨S, 0, none⟩)) ∧ W.cell? ⟨A, 2, none⟩ = some (.slice (some ⟨G, 0, none⟩) n cg) ∧ W.cell? ⟨A, 3, none⟩ = some (.pointer (some ⟨B, 0, none⟩)) := ⟨cell_of_heap h.head rfl, cell_of_heap h.head rfl, cell_of_heap h.head rfl⟩
theorem Tal.lt : ∀ k, k ∈ A :: G :: (Fd ++ B :: t.blocks) → k < W.heap.size := by
  intro k hk
  rcases List.mem_cons.1 hk with rfl | hk
  · exact heap_lt h.head
  · rcases List.mem_cons.1 hk with rfl | hk
    · exact h.row.lt
    · rcases List.mem_append.1 hk with hk | hk
      · exact h.sets.lt k hk
      · exact h.bag.lt k hk
theorem Tal.same {W' : World} (hk : ∀ k, k ∈ A :: G :: (Fd ++ B :: t.blocks) → W'.heap[k]? = W.heap[k]?) : Tal W' A G S B Fd t f cg n lab wt :=
  ⟨(hk A (by simp)).trans h.head, h.row.same (hk G (by simp)), h.sets.same fun k m => hk k (by simp [m]), h.bag.same fun k m => hk k (by simp only [List.mem_cons, List.mem_append]; exact .inr (.inr (.inr (List.mem_cons.1 m)))), h.nd, h.val, h.items, h.low⟩
theorem Tal.parts : A ≠ G ∧ A ∉ Fd ∧ G ∉ Fd ∧ A ∉ B :: t.blocks ∧ G ∉ B :: t.blocks ∧ ∀ k, k ∈ Fd → k ∉ B :: t.blocks := by
  have h1 := List.nodup_cons.1 h.nd
  have h2 := List.nodup_cons.1 h1.2
  have h3 := List.nodup_append.1 h2.2
  refine ⟨fun e => h1.1 (by simp [e]), fun m => h1.1 (List.mem_cons_of_mem _ (List.mem_append_left _ m)), fun m => h2.1 (List.mem_append_left _ m), fun m => h1.1 (List.mem_cons_of_mem _ (List.mem_append_right _ m)), fun m => h2.1 (List.mem_append_right _ m), fun k m m' => h3.2.2 k m k m' rfl⟩
/-- Only the sets have changed. -/
theorem Tal.step_sets {W' : World} (ho : Only Fd W W') (hd : DsuAt W' Fd S n lab) : Tal W' A G S B Fd t f cg n lab wt := by
  obtain ⟨p1, p2, p3, p4, p5, p6⟩ := h.parts
  exact ⟨(ho.block A (heap_lt h.head) p2).trans h.head, h.row.only ho p3, hd, h.bag.only ho fun k m m' => p6 k m' m, h.nd, h.val, h.items, h.low⟩
theorem Tal.rootlt {a : Nat} (ha : a < n) : lab a < n ∧ lab (lab a) = lab a := ⟨Nat.lt_of_le_of_lt (h.sets.low ha) ha, h.sets.idem ha⟩
theorem Tal.sum : sumL (setsL n lab wt) = (total n wt : Nat) := setsL_sum fun _ ha => h.rootlt ha
theorem Tal.sq : sqL (setsL n lab wt) ≤ 9223372036854775807 := by
  obtain ⟨T, h1, h2⟩ := sqL_le (l := setsL n lab wt) fun v hv => by obtain ⟨_, _, _, rfl⟩ := setsL_mem hv; omega
  rw [h.sum] at h1
  have h3 := h.low
  have h4 : T * T ≤ 3037000499 * 3037000499 := Nat.mul_le_mul (by omega) (by omega)
  omega
theorem Tal.ranged : Ranged t.items := by
  intro p hp
  rw [h.items] at hp
  obtain ⟨a, _, _, e⟩ := setsL_mem (bagOf_mem hp)
  have := sumOf_le n lab wt a
  have := h.low
  omega
theorem Tal.sz : t.sz = many n fun a => lab a == a := by rw [T.sz_items, h.items, bagOf_sz, setsL_len]
set_option maxRecDepth 100000 in
theorem tvalid_any : Calls Try.prog 72 #[.pointer (some ⟨A, 0, none⟩)] W fun e w' => e = .returned (.bool true) ∧ W = w' := by
  have c0 := cell_of_heap (i := 0) h.head rfl
  replace c0 : W.cell? ⟨A, 0, none⟩ = some (.pointer (some ⟨A, 0, none⟩)) := c0
  clear h
  go_enter Try.func72, Try.ntmps72
  have he := fun W => run_eql_ptr_same (P := Try.prog) (w := W) (tp := 24) (te := 65) ⟨A, 0, none⟩ Try.underlying24 tally_info
  go_wp2
  go_ret
  exact ⟨rfl, rfl⟩
set_option maxRecDepth 100000 in
theorem tCount_any : Calls Try.prog 29 #[.pointer (some ⟨A, 0, none⟩)] W fun e w' => e = .returned (.int .i64 (setsL n lab wt).length) ∧ W = w' := by
  have c1 := h.c.1
  have CV := Lib.hid (tvalid_any h)
  have CC := Lib.hid (DCount h.sets)
  rw [← setsL_len n lab wt] at CC
  clear h
  go_enter Try.func29, Try.ntmps29
  go_wp2_with fail
  refine CV.out.mono ?_
  rintro e w' ⟨rfl, rfl⟩
  go_wp2_with fail
  refine CC.out.mono ?_
  rintro e w' ⟨rfl, rfl⟩
  go_wp2_with fail
  go_ret
  exact ⟨rfl, rfl⟩
theorem Tal.last : kthV t ((t.sz : Int) - 1) = lastV (bagOf (setsL n lab wt)) := by
  rw [← h.items]
  unfold kthV lastV
  rw [T.sz_items]
  split
  · rename_i hk
    rw [kth_items t _ (by rw [T.sz_items]; omega)]
    congr 1
    omega
  · rename_i hk
    have h0 : T.szL t.items = 0 := by omega
    have : t.items = [] := by
      cases e : t.items with
      | nil => rfl
      | cons p l =>
        have := h.bag.po p (by rw [e]; exact List.mem_cons_self)
        rw [e] at h0
        simp only [T.szL] at h0
        omega
    rw [this]; rfl
set_option maxRecDepth 100000 in
theorem tLargest_any : Calls Try.prog 31 #[.pointer (some ⟨A, 0, none⟩)] W fun e w' => e = .returned (.int .i64 (lastV (bagOf (setsL n lab wt)))) ∧ ∃ k, w' = W.drewN k := by
  have c1 := h.c.2.2
  have CV := Lib.hid (tvalid_any h)
  have CC := Lib.hid (Max_any B t W h.bag.head h.bag.tree (by have := h.bag.sz; omega))
  rw [h.last] at CC
  clear h
  go_enter Try.func31, Try.ntmps31
  go_wp2_with fail
  refine CV.out.mono ?_
  rintro e w' ⟨rfl, rfl⟩
  go_wp2_with fail
  refine CC.out.mono ?_
  rintro e w' ⟨rfl, k, hv⟩
  go_wp2_with fail
  go_ret
  exact ⟨rfl, _, rfl⟩
set_option maxRecDepth 100000 in
theorem tSquares_any : Calls Try.prog 30 #[.pointer (some ⟨A, 0, none⟩)] W fun e w' => e = .returned (.int .i64 (sqL (setsL n lab wt))) ∧ Only [] W w' := by
  have c1 := h.c.2.2
  have CV := Lib.hid (tvalid_any h)
  have CC := Lib.hid (Squares_any B t W h.bag h.ranged (by rw [h.items, bagOf_sq]; exact h.sq))
  rw [h.items, bagOf_sq] at CC
  clear h
  go_enter Try.func30, Try.ntmps30
  go_wp2_with fail
  refine CV.out.mono ?_
  rintro e w' ⟨rfl, rfl⟩
  go_wp2_with fail
  refine CC.out.mono ?_
  rintro e w' ⟨rfl, ho⟩
  go_wp2_with fail
  go_ret
  exact ⟨rfl, ho⟩
end
end Go.Proofs.Ytbafacdknaopjaa
