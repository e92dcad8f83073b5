/-
  The contracts of New, Add, Remove.
-/
import Derived.Test.YtbafacdknaopjaaA11
namespace Go.Proofs.Ytbafacdknaopjaa
open Go.RowKit
set_option linter.unusedSimpArgs false

/-- A bag lies in a block, with a tree. -/
structure Bag (W : World) (B : Nat) (t : T) : Prop where
  head : HeadAt W B t
  tree : t.At W
  nd : (B :: t.blocks).Nodup
  so : Sorted t.items
  po : ∀ p ∈ t.items, 1 ≤ p.2
  sz : t.sz ≤ 2147483647
theorem Bag.ds {W : World} {B : Nat} {t : T} (h : Bag W B t) : t.ds ≤ 2147483647 := by
  have h1 := len_le_sz h.po
  rw [← T.ds_items, ← T.sz_items] at h1
  exact Nat.le_trans h1 h.sz
theorem Bag.same {W W' : World} {B : Nat} {t : T} (h : Bag W B t) (hs : ∀ k, k ∈ B :: t.blocks → W'.heap[k]? = W.heap[k]?) : Bag W' B t :=
  ⟨(hs B List.mem_cons_self).trans h.head, h.tree.same fun k hk => hs k (List.mem_cons_of_mem _ hk), h.nd, h.so, h.po, h.sz⟩
theorem Bag.lt {W : World} {B : Nat} {t : T} (h : Bag W B t) : ∀ k, k ∈ B :: t.blocks → k < W.heap.size := by
  intro k hk
  rcases List.mem_cons.1 hk with rfl | hk
  · exact heap_lt h.head
  · exact h.tree.lt k hk
theorem Bag.only {W W' : World} {B : Nat} {t : T} {gs : List Nat} (h : Bag W B t) (ho : Only gs W W') (hd : ∀ k, k ∈ B :: t.blocks → k ∉ gs) : Bag W' B t :=
  h.same fun k hk => ho.block k (h.lt k hk) (hd k hk)
theorem Bag.drewN {W : World} {B : Nat} {t : T} (h : Bag W B t) (n : Nat) : Bag (W.drewN n) B t := h.same fun _ _ => rfl
theorem Only.alloc {gs : List Nat} {a b : World} (h : Only gs a b) (o : Obj) : Only gs a (b.alloc o) :=
  ⟨h.os, h.tape, h.output, by rw [World.size_alloc]; exact Nat.le_succ_of_le h.size, fun k hk hn => (heap_alloc_old _ _ (Nat.lt_of_lt_of_le hk h.size)).trans (h.block k hk hn)⟩
theorem Bag.alloc {W : World} {B : Nat} {t : T} (h : Bag W B t) (o : Obj) : Bag (W.alloc o) B t := h.only ((Only.refl [] W).alloc o) fun _ _ hm => by simp at hm

/-- A bag with other numbers in the place of an old one: what the calls that change it leave. -/
structure Became (w w' : World) (B : Nat) (t t' : T) (L : Items) : Prop where
  bag : Bag w' B t'
  items : t'.items = L
  fresh : ∀ b, b ∈ t'.blocks → b ∈ t.blocks ∨ w.heap.size ≤ b
  only : Only (B :: t.blocks) w w'

set_option maxRecDepth 100000 in
theorem New_any (w : World) : Calls Try.prog 139 #[] w fun e w' => e = .returned (.pointer (some ⟨w.heap.size, 0, none⟩)) ∧ Bag w' w.heap.size .leaf ∧ Only [] w w' := by
  go_enter Try.func139, Try.ntmps139
  go_wp2
  go_ret
  refine ⟨rfl, ⟨?_, trivial, by simp [T.blocks], by simp [Sorted, T.items], by simp [T.items], by simp [T.sz]⟩, ?_⟩
  · exact heap_alloc_new _ _
  · exact (Only.refl [] w).alloc _

theorem lput_le {x : Int} {n : Nat} {t : T} (h : Sorted t.items) (hn : t.sz + n ≤ 2147483647 + t.cnt x) {t' : T} (e : t'.items = lput x n t.items) : t'.sz ≤ 2147483647 := by
  have h1 := lput_sz (x := x) (n := n) h
  rw [← e, ← T.sz_items, ← T.sz_items, ← cnt_items x t h] at h1
  omega

theorem became_of {w w0 w1 : World} {B : Nat} {t t' : T} {x : Int} {n : Nat} (h : Bag w B t) (h0 : Only [] w w0) (hO : Only t.blocks w0 w1) (hA : t'.At w1) (hnew : ∀ b, b ∈ t'.blocks → b ∈ t.blocks ∨ w.heap.size ≤ b) (hnd : t'.blocks.Nodup)
    (hi : t'.items = lput x n t.items) (hsz : t.sz + n ≤ 2147483647 + t.cnt x) : Became w (w1.setCell ⟨B, 1, none⟩ t'.ptr) B t t' (lput x n t.items) := by
  have hB := (List.nodup_cons.1 h.nd).1
  have hBw := heap_lt h.head
  have hBt : B ∉ t'.blocks := fun hm => (hnew B hm).elim hB (fun hle => by omega)
  have hh : w1.heap[B]? = _ := (hO.block B (Nat.lt_of_lt_of_le hBw h0.size) hB).trans ((h0.block B hBw (by simp)).trans h.head)
  refine ⟨⟨?_, hA.set _ hBt, List.nodup_cons.2 ⟨hBt, hnd⟩, ?_, ?_, lput_le h.so hsz hi⟩, hi, hnew, ?_⟩
  · exact heap_setCell_same w1 B 1 _ 190 _ hh
  · rw [hi]; exact lput_sorted h.so
  · rw [hi]; exact lput_pos h.po
  · exact ((h0.mono (hs := B :: t.blocks) (fun k hk => by simp at hk)).trans (hO.mono fun k hk => List.mem_cons_of_mem _ hk)).setCell List.mem_cons_self _

theorem update_put (x : Int) (f : Nat → Nat) (K Bx : Nat) (hK : Goes K) (t : T) (w : World) (hA : t.At w) (hnd : t.blocks.Nodup) (hso : Sorted t.items) (hs : t.sz + f (lcnt x t.items) ≤ 2 ^ 60) (hd : t.ds + 1 ≤ 2 ^ 60) (hm : Makes K Bx (lcnt x t.items) (f (lcnt x t.items)) w) :
    Calls Try.prog 135 #[t.ptr, .int .i64 x, clo K Bx] w fun e w' => ∃ t' : T, e = .returned t'.ptr ∧ t'.At w' ∧ Only t.blocks w w' ∧ t'.items = lput x (f (lcnt x t.items)) t.items ∧ t'.blocks.Nodup ∧ ∀ b, b ∈ t'.blocks → b ∈ t.blocks ∨ w.heap.size ≤ b := by
  have hc := cnt_items x t hso
  rw [← hc] at hs hm
  refine (update_any x f K Bx hK t hnd hs hd w hA hm).mono ?_
  rintro e w' ⟨rfl, h1, h2⟩
  exact ⟨_, rfl, h1, h2, upd_items _ x f t hso, T.upd_nodup hnd fun hm => Nat.lt_irrefl _ (hA.lt _ hm), fun b hb => (T.upd_mem hb).elim (fun e => .inr (by rw [e]; exact Nat.le_refl _)) .inl⟩

set_option maxRecDepth 100000 in
set_option maxHeartbeats 2000000 in
theorem Add_ok (B : Nat) (t : T) (x : Int) (k : Nat) (w : World) (h : Bag w B t) (hk : t.sz + k ≤ 2147483647) :
    Calls Try.prog 79 #[.pointer (some ⟨B, 0, none⟩), .int .i64 x, .int .i64 k] w fun e w' => e = .returned (.int .i64 0) ∧ ∃ t', Became w w' B t t' (lput x (lcnt x t.items + k) t.items) := by
  have c1 := h.head.c1
  have f1 := h.head.fz 1
  have HB := Lib.hid (h.alloc (.cells #[.int .i64 k] 3))
  have H0 := Lib.hid h
  have CV := Lib.hid (valid_any B t _ HB.out.head)
  have CZ := Lib.hid (fun n => Size_any B t _ (HB.out.drewN n).head (HB.out.drewN n).tree)
  have hcs := lcnt_le_sz x t.items
  rw [← T.sz_items] at hcs
  have hBw := heap_lt h.head
  have CU := Lib.hid (fun n => update_put x (· + k) 137 w.heap.size goes_add t ((w.alloc (.cells #[.int .i64 k] 3)).drewN n) (HB.out.tree.drewN n) (List.nodup_cons.1 h.nd).2 h.so (by omega) (by have := h.ds; omega) (makes_add w.heap.size (lcnt x t.items) k _ (by simp [go_sem]) (by omega) (by omega)))
  clear h hcs
  go_enter Try.func79, Try.ntmps79
  go_wp2_with fail
  refine CV.out.mono ?_
  rintro e w' ⟨rfl, rfl⟩
  go_wp2_with fail
  go_quiet ((go_at_call 133; exact Calls.quiet_of (CZ.out _)))
  go_wp2_with fail
  refine (CU.out nq).mono ?_
  rintro e w1 ⟨t', rfl, hA1, hO1, hi, hnd, hnew⟩
  have hh1 : w1.heap[B]? = _ := (hO1.block B (HB.out.lt B List.mem_cons_self) (List.nodup_cons.1 HB.out.nd).1).trans HB.out.head
  have d1 := cell_of_heap (i := 1) hh1 rfl
  have z1 := frozen_of_heap (i := 1) hh1
  have HF := Lib.hid (became_of H0.out (((Only.refl [] w).alloc (.cells #[.int .i64 k] 3)).drewN nq) hO1 hA1 (fun b hb => (hnew b hb).imp id (fun h => Nat.le_trans (by show w.heap.size ≤ (w.alloc _).heap.size; rw [World.size_alloc]; omega) h)) hnd hi (by have := cnt_items x t H0.out.so; omega))
  clear hA1 hO1 hh1 CU CZ CV HB hi hnew hnd
  go_wp2_with fail
  go_ret
  exact ⟨rfl, _, HF.out⟩

set_option maxRecDepth 100000 in
set_option maxHeartbeats 2000000 in
theorem Remove_ok (B : Nat) (t : T) (x : Int) (k : Nat) (w : World) (h : Bag w B t) (hk : k ≤ lcnt x t.items) :
    Calls Try.prog 78 #[.pointer (some ⟨B, 0, none⟩), .int .i64 x, .int .i64 k] w fun e w' => e = .returned (.int .i64 0) ∧ ∃ t', Became w w' B t t' (lput x (lcnt x t.items - k) t.items) := by
  have c1 := h.head.c1
  have f1 := h.head.fz 1
  have HB := Lib.hid (h.alloc (.cells #[.int .i64 k] 3))
  have H0 := Lib.hid h
  have CV := Lib.hid (valid_any B t _ HB.out.head)
  have CZ := Lib.hid (fun n => Count_any B t x _ (HB.out.drewN n).head (HB.out.drewN n).tree)
  rw [cnt_items x t h.so] at CZ
  have hsz := h.sz
  have hcs := lcnt_le_sz x t.items
  rw [← T.sz_items] at hcs
  have hBw := heap_lt h.head
  have CU := Lib.hid (fun n => update_put x (· - k) 136 w.heap.size goes_remove t ((w.alloc (.cells #[.int .i64 k] 3)).drewN n) (HB.out.tree.drewN n) (List.nodup_cons.1 h.nd).2 h.so (by omega) (by have := h.ds; omega) (makes_remove w.heap.size (lcnt x t.items) k _ (by simp [go_sem]) (by omega) (by omega)))
  clear h hcs
  go_enter Try.func78, Try.ntmps78
  go_wp2_with fail
  refine CV.out.mono ?_
  rintro e w' ⟨rfl, rfl⟩
  go_wp2_with fail
  go_quiet ((go_at_call 134; exact Calls.quiet_of_same ((CZ.out _).mono fun e w' h => ⟨h.1, h.2.symm⟩)))
  go_wp2_with fail
  refine (CU.out nq).mono ?_
  rintro e w1 ⟨t', rfl, hA1, hO1, hi, hnd, hnew⟩
  have hh1 : w1.heap[B]? = _ := (hO1.block B (HB.out.lt B List.mem_cons_self) (List.nodup_cons.1 HB.out.nd).1).trans HB.out.head
  have d1 := cell_of_heap (i := 1) hh1 rfl
  have z1 := frozen_of_heap (i := 1) hh1
  have HF := Lib.hid (became_of H0.out (((Only.refl [] w).alloc (.cells #[.int .i64 k] 3)).drewN nq) hO1 hA1 (fun b hb => (hnew b hb).imp id (fun h => Nat.le_trans (by show w.heap.size ≤ (w.alloc _).heap.size; rw [World.size_alloc]; omega) h)) hnd hi (by have := cnt_items x t H0.out.so; omega))
  clear hA1 hO1 hh1 CU CZ CV HB hi hnew hnd
  go_wp2_with fail
  go_ret
  exact ⟨rfl, _, HF.out⟩

set_option maxRecDepth 100000 in
set_option maxHeartbeats 2000000 in
theorem Add_arg (B : Nat) (t : T) (x k : Int) (w : World) (h : Bag w B t) (hk : k < 0) :
    Calls Try.prog 79 #[.pointer (some ⟨B, 0, none⟩), .int .i64 x, .int .i64 k] w fun e w' => e = .returned (.int .i64 2) ∧ Only [] w w' := by
  have CV := Lib.hid (valid_any B t _ (h.alloc (.cells #[.int .i64 k] 3)).head)
  clear h
  go_enter Try.func79, Try.ntmps79
  go_wp2_with fail
  refine CV.out.mono ?_
  rintro e w' ⟨rfl, rfl⟩
  go_wp2_with fail
  go_ret
  exact ⟨rfl, (Only.refl [] w).alloc _⟩

set_option maxRecDepth 100000 in
set_option maxHeartbeats 2000000 in
theorem Add_full (B : Nat) (t : T) (x k : Int) (w : World) (h : Bag w B t) (hk0 : 0 ≤ k) (hk : 2147483647 - (t.sz : Int) < k) :
    Calls Try.prog 79 #[.pointer (some ⟨B, 0, none⟩), .int .i64 x, .int .i64 k] w fun e w' => e = .returned (.int .i64 4) ∧ Only [] w w' := by
  have HB := h.alloc (.cells #[.int .i64 k] 3)
  have CV := Lib.hid (valid_any B t _ HB.head)
  have CZ := Lib.hid (fun n => Size_any B t _ (HB.drewN n).head (HB.drewN n).tree)
  have hsz := h.sz
  clear h HB
  go_enter Try.func79, Try.ntmps79
  go_wp2_with fail
  refine CV.out.mono ?_
  rintro e w' ⟨rfl, rfl⟩
  go_wp2_with fail
  go_quiet ((go_at_call 133; exact Calls.quiet_of (CZ.out _)))
  go_wp2_with fail
  go_ret
  exact ⟨rfl, ((Only.refl [] w).alloc _).drewN _⟩

set_option maxRecDepth 100000 in
set_option maxHeartbeats 2000000 in
theorem Remove_arg (B : Nat) (t : T) (x k : Int) (w : World) (h : Bag w B t) (hk : k < 0) :
    Calls Try.prog 78 #[.pointer (some ⟨B, 0, none⟩), .int .i64 x, .int .i64 k] w fun e w' => e = .returned (.int .i64 2) ∧ Only [] w w' := by
  have CV := Lib.hid (valid_any B t _ (h.alloc (.cells #[.int .i64 k] 3)).head)
  clear h
  go_enter Try.func78, Try.ntmps78
  go_wp2_with fail
  refine CV.out.mono ?_
  rintro e w' ⟨rfl, rfl⟩
  go_wp2_with fail
  go_ret
  exact ⟨rfl, (Only.refl [] w).alloc _⟩

set_option maxRecDepth 100000 in
set_option maxHeartbeats 2000000 in
theorem Remove_none (B : Nat) (t : T) (x k : Int) (w : World) (h : Bag w B t) (hk0 : 0 ≤ k) (hk : (lcnt x t.items : Int) < k) :
    Calls Try.prog 78 #[.pointer (some ⟨B, 0, none⟩), .int .i64 x, .int .i64 k] w fun e w' => e = .returned (.int .i64 5) ∧ Only [] w w' := by
  have HB := h.alloc (.cells #[.int .i64 k] 3)
  have CV := Lib.hid (valid_any B t _ HB.head)
  have CZ := Lib.hid (fun n => Count_any B t x _ (HB.drewN n).head (HB.drewN n).tree)
  rw [cnt_items x t h.so] at CZ
  clear h HB
  go_enter Try.func78, Try.ntmps78
  go_wp2_with fail
  refine CV.out.mono ?_
  rintro e w' ⟨rfl, rfl⟩
  go_wp2_with fail
  go_quiet ((go_at_call 134; exact Calls.quiet_of_same ((CZ.out _).mono fun e w' h => ⟨h.1, h.2.symm⟩)))
  go_wp2_with fail
  go_ret
  exact ⟨rfl, ((Only.refl [] w).alloc _).drewN _⟩

end Go.Proofs.Ytbafacdknaopjaa
