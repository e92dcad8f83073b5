import Derived.Shelf.Bits.Mul64
import Derived.Laws.Externs
import Derived.Test.YtipgbbhgmoehfaaYB
/-
  The contracts of Rank, Kth, Min, Max.
-/
namespace Go.Proofs.Ytipgbbhgmoehfaa
open Go.RowKit
set_option linter.unusedSimpArgs false

namespace T
def rank (x : Int) : T → Nat
  | leaf => 0
  | node _ l y t r => if x ≤ y then l.rank x else l.sz + t + r.rank x
theorem rank_le (x : Int) (t : T) : t.rank x ≤ t.sz := by
  induction t with
  | leaf => simp [rank]
  | node g l y u r ihl ihr => simp only [rank, sz]; split <;> omega
def kth : T → Nat → Int
  | leaf, _ => 0
  | node _ l x t r, k => if k < l.sz then l.kth k else if k < l.sz + t then x else r.kth (k - (l.sz + t))
end T

set_option maxRecDepth 100000 in
set_option maxHeartbeats 2000000 in
theorem Kth_in (B : Nat) (t : T) (k : Nat) (w : World) (h : HeadAt w B t) (ht : t.At w) (hs : t.sz ≤ 2 ^ 60) (hk : k < t.sz) : Calls Try.prog 119 #[.pointer (some ⟨B, 0, none⟩), .int .i64 k] w fun e w' => e = .returned (.tuple #[.int .i64 (t.kth k), .bool true]) ∧ ∃ n, w' = w.drewN n := by
  have CV := Lib.hid (tree_any B t w h)
  have CZ := Lib.hid (Size_any B t w h ht)
  have HT := Lib.hid ht
  clear h ht
  have q1 : decide ((k : Int) < 0) = false := by simp
  have q2 : decide (t.sz ≤ k) = false := by simp; omega
  go_enter Try.func119, Try.ntmps119
  go_wp2_with fail
  refine CV.out.mono ?_
  rintro e w' ⟨rfl, rfl⟩
  go_wp2_with fail
  refine CZ.out.mono ?_
  rintro e w' ⟨rfl, n0, rfl⟩
  go_wp2_with fail
  go_loopg [1, 6] t.ds (fun q a v wr => ∃ (s : T) (c n : Nat), v = s.ptr ∧ a = .int .i64 c ∧ Hid (s.ds = q) ∧ wr = w.drewN n ∧ Hid (s.At w) ∧ Hid (s.kth c = t.kth k) ∧ c < s.sz ∧ s.sz ≤ t.sz)
  case atStart => exact ⟨t, k, n0, rfl, rfl, Lib.hid rfl, rfl, HT, Lib.hid rfl, hk, Nat.le_refl _⟩
  case round =>
    obtain ⟨s, c, n, hv, rfl, hq, rfl, hs2, hx, hc, hc2⟩ := hrel
    cases s with
    | leaf => simp [T.sz] at hc
    | node g l y u r =>
      obtain ⟨h1, h2, h3⟩ := id hs2.out
      have c0 := cell_of_heap (i := 0) h1 rfl
      have c1 := cell_of_heap (i := 1) h1 rfl
      have c2 := cell_of_heap (i := 2) h1 rfl
      have c3 := cell_of_heap (i := 3) h1 rfl
      have HL := Lib.hid h2
      have HR := Lib.hid h3
      have hq2 := hq.out
      have CS := Lib.hid (fun W (h : l.At W) => sizes_any l W h)
      simp only [T.ds] at hq2
      simp only [T.sz] at hc hc2
      clear h1 h2 h3 hs2 hq
      replace c0 : w.cell? ⟨g, 0, none⟩ = some l.ptr := c0
      replace c1 : w.cell? ⟨g, 1, none⟩ = some r.ptr := c1
      replace c2 : w.cell? ⟨g, 2, none⟩ = some (.int .i64 y) := c2
      replace c3 : w.cell? ⟨g, 3, none⟩ = some (.int .i64 u) := c3
      replace hv : _ = Value.pointer (some ⟨g, 0, none⟩) := hv
      subst hv
      have w1 : IntKind.i64.wrap ((l.sz : Int) + (u : Int)) = (l.sz : Int) + (u : Int) := IntWalk.i64_in _ (by omega)
      have w2 : IntKind.i64.wrap ((c : Int) - ((l.sz : Int) + (u : Int))) = (c : Int) - ((l.sz : Int) + (u : Int)) := IntWalk.i64_in _ (by omega)
      by_cases hlt : c < l.sz
      · have HX := Lib.hid (show l.kth c = t.kth k by have := hx.out; simpa [T.kth, hlt] using this)
        clear hx
        go_wp2_with fail
        refine (CS.out _ (HL.out.drewN _)).mono ?_
        rintro e w' ⟨rfl, n2, rfl⟩
        go_wp2_with fail
        go_roundg l.ds
        case measure => omega
        case rel => exact ⟨l, c, n + n2, rfl, rfl, Lib.hid rfl, rfl, HL, HX, hlt, by omega⟩
      · by_cases hlt2 : c < l.sz + u
        · have HX := Lib.hid (show y = t.kth k by have := hx.out; simpa [T.kth, hlt, hlt2] using this)
          clear hx
          go_wp2_with fail
          refine (CS.out _ (HL.out.drewN _)).mono ?_
          rintro e w' ⟨rfl, n2, rfl⟩
          go_wp2_with fail
          go_ret2
          exact ⟨by rw [← HX.out]; rfl, n + n2, rfl⟩
        · have HX := Lib.hid (show r.kth (c - (l.sz + u)) = t.kth k by have := hx.out; simpa [T.kth, hlt, hlt2] using this)
          clear hx
          go_wp2_with fail
          refine (CS.out _ (HL.out.drewN _)).mono ?_
          rintro e w' ⟨rfl, n2, rfl⟩
          go_wp2_with fail
          go_roundg r.ds
          case measure => omega
          case rel => exact ⟨r, c - (l.sz + u), n + n2, rfl, by rw [show ((c - (l.sz + u) : Nat) : Int) = (c : Int) - ((l.sz : Int) + (u : Int)) by omega], Lib.hid rfl, rfl, HR, HX, by omega, by omega⟩

set_option maxRecDepth 100000 in
set_option maxHeartbeats 2000000 in
theorem Kth_out (B : Nat) (t : T) (k : Int) (w : World) (h : HeadAt w B t) (ht : t.At w) (hk : k < 0 ∨ (t.sz : Int) ≤ k) : Calls Try.prog 119 #[.pointer (some ⟨B, 0, none⟩), .int .i64 k] w fun e w' => e = .returned (.tuple #[.int .i64 0, .bool false]) ∧ ∃ n, w' = w.drewN n := by
  have CV := Lib.hid (tree_any B t w h)
  have CZ := Lib.hid (Size_any B t w h ht)
  clear h ht
  by_cases hk0 : k < 0
  · go_enter Try.func119, Try.ntmps119
    go_wp2_with fail
    refine CV.out.mono ?_
    rintro e w' ⟨rfl, rfl⟩
    go_wp2_with fail
    go_ret2
    exact ⟨rfl, 0, rfl⟩
  · have q1 : decide (k < 0) = false := by simp; omega
    have q2 : (t.sz : Int) ≤ k := by omega
    clear hk
    go_enter Try.func119, Try.ntmps119
    go_wp2_with fail
    refine CV.out.mono ?_
    rintro e w' ⟨rfl, rfl⟩
    go_wp2_with fail
    refine CZ.out.mono ?_
    rintro e w' ⟨rfl, n0, rfl⟩
    go_wp2_with fail
    go_ret2
    exact ⟨rfl, n0, rfl⟩

/-- What Kth returns. -/
def kthV (t : T) (k : Int) : Int := if 0 ≤ k ∧ k < t.sz then t.kth k.toNat else 0
def kthB (t : T) (k : Int) : Bool := decide (0 ≤ k ∧ k < t.sz)
theorem Kth_any (B : Nat) (t : T) (k : Int) (w : World) (h : HeadAt w B t) (ht : t.At w) (hs : t.sz ≤ 2 ^ 60) : Calls Try.prog 119 #[.pointer (some ⟨B, 0, none⟩), .int .i64 k] w fun e w' => e = .returned (.tuple #[.int .i64 (kthV t k), .bool (kthB t k)]) ∧ ∃ n, w' = w.drewN n := by
  unfold kthV kthB
  by_cases hk : 0 ≤ k ∧ k < t.sz
  · rw [if_pos hk, decide_eq_true hk]
    obtain ⟨m, rfl⟩ : ∃ m : Nat, k = m := ⟨k.toNat, by omega⟩
    exact Kth_in B t m w h ht hs (by omega)
  · rw [if_neg hk, decide_eq_false hk]
    exact Kth_out B t k w h ht (by omega)

set_option maxRecDepth 100000 in
theorem Max_any (B : Nat) (t : T) (w : World) (h : HeadAt w B t) (ht : t.At w) (hs : t.sz ≤ 2 ^ 60) : Calls Try.prog 85 #[.pointer (some ⟨B, 0, none⟩)] w fun e w' => e = .returned (.tuple #[.int .i64 (kthV t ((t.sz : Int) - 1)), .bool (kthB t ((t.sz : Int) - 1))]) ∧ ∃ n, w' = w.drewN n := by
  have CZ := Lib.hid (Size_any B t w h ht)
  have CV := Lib.hid (fun n => Kth_any B t ((t.sz : Int) - 1) (w.drewN n) h (ht.drewN n) hs)
  have w1 : IntKind.i64.wrap ((t.sz : Int) - 1) = (t.sz : Int) - 1 := IntWalk.i64_in _ (by omega)
  clear h ht
  go_enter Try.func85, Try.ntmps85
  go_wp2_with fail
  refine CZ.out.mono ?_
  rintro e w' ⟨rfl, n0, rfl⟩
  go_wp2_with fail
  refine (CV.out n0).mono ?_
  rintro e w' ⟨rfl, n, rfl⟩
  go_wp2_with fail
  go_ret2
  exact ⟨rfl, n0 + n, rfl⟩

end Go.Proofs.Ytipgbbhgmoehfaa

/-
  The contracts of New, Add, Remove.
-/
namespace Go.Proofs.Ytipgbbhgmoehfaa
open Go.RowKit
set_option linter.unusedSimpArgs false

/-- A bag lies in a block, with a tree. -/
structure Bag (W : World) (B : Nat) (t : T) : Prop where
  head : HeadAt W B t
  tree : t.At W
  nd : (B :: t.blocks).Nodup
  so : Sorted t.items
  po : ∀ p ∈ t.items, 1 ≤ p.2
  sz : t.sz ≤ 2147483647
theorem Bag.ds {W : World} {B : Nat} {t : T} (h : Bag W B t) : t.ds ≤ 2147483647 := by
  have h1 := len_le_sz h.po
  rw [← T.ds_items, ← T.sz_items] at h1
  exact Nat.le_trans h1 h.sz
theorem Bag.same {W W' : World} {B : Nat} {t : T} (h : Bag W B t) (hs : ∀ k, k ∈ B :: t.blocks → W'.heap[k]? = W.heap[k]?) : Bag W' B t :=
  ⟨(hs B List.mem_cons_self).trans h.head, h.tree.same fun k hk => hs k (List.mem_cons_of_mem _ hk), h.nd, h.so, h.po, h.sz⟩
theorem Bag.lt {W : World} {B : Nat} {t : T} (h : Bag W B t) : ∀ k, k ∈ B :: t.blocks → k < W.heap.size := by
  intro k hk
  rcases List.mem_cons.1 hk with rfl | hk
  · exact heap_lt h.head
  · exact h.tree.lt k hk
theorem Bag.only {W W' : World} {B : Nat} {t : T} {gs : List Nat} (h : Bag W B t) (ho : Only gs W W') (hd : ∀ k, k ∈ B :: t.blocks → k ∉ gs) : Bag W' B t :=
  h.same fun k hk => ho.block k (h.lt k hk) (hd k hk)
theorem Bag.drewN {W : World} {B : Nat} {t : T} (h : Bag W B t) (n : Nat) : Bag (W.drewN n) B t := h.same fun _ _ => rfl
theorem Only.alloc {gs : List Nat} {a b : World} (h : Only gs a b) (o : Obj) : Only gs a (b.alloc o) :=
  ⟨h.os, h.tape, h.output, by rw [World.size_alloc]; exact Nat.le_succ_of_le h.size, fun k hk hn => (heap_alloc_old _ _ (Nat.lt_of_lt_of_le hk h.size)).trans (h.block k hk hn)⟩
theorem Bag.alloc {W : World} {B : Nat} {t : T} (h : Bag W B t) (o : Obj) : Bag (W.alloc o) B t := h.only ((Only.refl [] W).alloc o) fun _ _ hm => by simp at hm

/-- A bag with other numbers in the place of an old one: what the calls that change it leave. -/
structure Became (w w' : World) (B : Nat) (t t' : T) (L : Items) : Prop where
  bag : Bag w' B t'
  items : t'.items = L
  fresh : ∀ b, b ∈ t'.blocks → b ∈ t.blocks ∨ w.heap.size ≤ b
  only : Only (B :: t.blocks) w w'

set_option maxRecDepth 100000 in
theorem New_any (w : World) : Calls Try.prog 80 #[] w fun e w' => e = .returned (.pointer (some ⟨w.heap.size, 0, none⟩)) ∧ Bag w' w.heap.size .leaf ∧ Only [] w w' := by
  go_enter Try.func80, Try.ntmps80
  go_wp2
  go_ret
  refine ⟨rfl, ⟨?_, trivial, by simp [T.blocks], by simp [Sorted, T.items], by simp [T.items], by simp [T.sz]⟩, ?_⟩
  · exact heap_alloc_new _ _
  · exact (Only.refl [] w).alloc _

theorem lput_le {x : Int} {n : Nat} {t : T} (h : Sorted t.items) (hn : t.sz + n ≤ 2147483647 + t.cnt x) {t' : T} (e : t'.items = lput x n t.items) : t'.sz ≤ 2147483647 := by
  have h1 := lput_sz (x := x) (n := n) h
  rw [← e, ← T.sz_items, ← T.sz_items, ← cnt_items x t h] at h1
  omega

theorem became_of {w w0 w1 : World} {B : Nat} {t t' : T} {x : Int} {n : Nat} (h : Bag w B t) (h0 : Only [] w w0) (hO : Only t.blocks w0 w1) (hA : t'.At w1) (hnew : ∀ b, b ∈ t'.blocks → b ∈ t.blocks ∨ w.heap.size ≤ b) (hnd : t'.blocks.Nodup)
    (hi : t'.items = lput x n t.items) (hsz : t.sz + n ≤ 2147483647 + t.cnt x) : Became w (w1.setCell ⟨B, 1, none⟩ t'.ptr) B t t' (lput x n t.items) := by
  have hB := (List.nodup_cons.1 h.nd).1
  have hBw := heap_lt h.head
  have hBt : B ∉ t'.blocks := fun hm => (hnew B hm).elim hB (fun hle => by omega)
  have hh : w1.heap[B]? = _ := (hO.block B (Nat.lt_of_lt_of_le hBw h0.size) hB).trans ((h0.block B hBw (by simp)).trans h.head)
  refine ⟨⟨?_, hA.set _ hBt, List.nodup_cons.2 ⟨hBt, hnd⟩, ?_, ?_, lput_le h.so hsz hi⟩, hi, hnew, ?_⟩
  · exact heap_setCell_same w1 B 1 _ 182 _ hh
  · rw [hi]; exact lput_sorted h.so
  · rw [hi]; exact lput_pos h.po
  · exact ((h0.mono (hs := B :: t.blocks) (fun k hk => by simp at hk)).trans (hO.mono fun k hk => List.mem_cons_of_mem _ hk)).setCell List.mem_cons_self _

theorem update_put (x : Int) (f : Nat → Nat) (K Bx : Nat) (hK : Goes K) (t : T) (w : World) (hA : t.At w) (hnd : t.blocks.Nodup) (hso : Sorted t.items) (hs : t.sz + f (lcnt x t.items) ≤ 2 ^ 60) (hd : t.ds + 1 ≤ 2 ^ 60) (hm : Makes K Bx (lcnt x t.items) (f (lcnt x t.items)) w) :
    Calls Try.prog 115 #[t.ptr, .int .i64 x, clo K Bx] w fun e w' => ∃ t' : T, e = .returned t'.ptr ∧ t'.At w' ∧ Only t.blocks w w' ∧ t'.items = lput x (f (lcnt x t.items)) t.items ∧ t'.blocks.Nodup ∧ ∀ b, b ∈ t'.blocks → b ∈ t.blocks ∨ w.heap.size ≤ b := by
  have hc := cnt_items x t hso
  rw [← hc] at hs hm
  refine (update_any x f K Bx hK t hnd hs hd w hA hm).mono ?_
  rintro e w' ⟨rfl, h1, h2⟩
  exact ⟨_, rfl, h1, h2, upd_items _ x f t hso, T.upd_nodup hnd fun hm => Nat.lt_irrefl _ (hA.lt _ hm), fun b hb => (T.upd_mem hb).elim (fun e => .inr (by rw [e]; exact Nat.le_refl _)) .inl⟩

set_option maxRecDepth 100000 in
set_option maxHeartbeats 2000000 in
theorem Add_ok (B : Nat) (t : T) (x : Int) (k : Nat) (w : World) (h : Bag w B t) (hk : t.sz + k ≤ 2147483647) :
    Calls Try.prog 81 #[.pointer (some ⟨B, 0, none⟩), .int .i64 x, .int .i64 k] w fun e w' => e = .returned (.int .i64 0) ∧ ∃ t', Became w w' B t t' (lput x (lcnt x t.items + k) t.items) := by
  have c1 := h.head.c1
  have f1 := h.head.fz 1
  have HB := Lib.hid (h.alloc (.cells #[.int .i64 k] 3))
  have H0 := Lib.hid h
  have CV := Lib.hid (valid_any B t _ HB.out.head)
  have CZ := Lib.hid (fun n => Size_any B t _ (HB.out.drewN n).head (HB.out.drewN n).tree)
  have hcs := lcnt_le_sz x t.items
  rw [← T.sz_items] at hcs
  have hBw := heap_lt h.head
  have CU := Lib.hid (fun n => update_put x (· + k) 116 w.heap.size goes_add t ((w.alloc (.cells #[.int .i64 k] 3)).drewN n) (HB.out.tree.drewN n) (List.nodup_cons.1 h.nd).2 h.so (by omega) (by have := h.ds; omega) (makes_add w.heap.size (lcnt x t.items) k _ (by simp [go_sem]) (by omega) (by omega)))
  clear h hcs
  go_enter Try.func81, Try.ntmps81
  go_wp2_with fail
  refine CV.out.mono ?_
  rintro e w' ⟨rfl, rfl⟩
  go_wp2_with fail
  go_quiet ((go_at_call 114; exact Calls.quiet_of (CZ.out _)))
  go_wp2_with fail
  refine (CU.out nq).mono ?_
  rintro e w1 ⟨t', rfl, hA1, hO1, hi, hnd, hnew⟩
  have hh1 : w1.heap[B]? = _ := (hO1.block B (HB.out.lt B List.mem_cons_self) (List.nodup_cons.1 HB.out.nd).1).trans HB.out.head
  have d1 := cell_of_heap (i := 1) hh1 rfl
  have z1 := frozen_of_heap (i := 1) hh1
  have HF := Lib.hid (became_of H0.out (((Only.refl [] w).alloc (.cells #[.int .i64 k] 3)).drewN nq) hO1 hA1 (fun b hb => (hnew b hb).imp id (fun h => Nat.le_trans (by show w.heap.size ≤ (w.alloc _).heap.size; rw [World.size_alloc]; omega) h)) hnd hi (by have := cnt_items x t H0.out.so; omega))
  clear hA1 hO1 hh1 CU CZ CV HB hi hnew hnd
  go_wp2_with fail
  go_ret
  exact ⟨rfl, _, HF.out⟩

set_option maxRecDepth 100000 in
set_option maxHeartbeats 2000000 in
theorem Remove_ok (B : Nat) (t : T) (x : Int) (k : Nat) (w : World) (h : Bag w B t) (hk : k ≤ lcnt x t.items) :
    Calls Try.prog 84 #[.pointer (some ⟨B, 0, none⟩), .int .i64 x, .int .i64 k] w fun e w' => e = .returned (.int .i64 0) ∧ ∃ t', Became w w' B t t' (lput x (lcnt x t.items - k) t.items) := by
  have c1 := h.head.c1
  have f1 := h.head.fz 1
  have HB := Lib.hid (h.alloc (.cells #[.int .i64 k] 3))
  have H0 := Lib.hid h
  have CV := Lib.hid (valid_any B t _ HB.out.head)
  have CZ := Lib.hid (fun n => Count_any B t x _ (HB.out.drewN n).head (HB.out.drewN n).tree)
  rw [cnt_items x t h.so] at CZ
  have hsz := h.sz
  have hcs := lcnt_le_sz x t.items
  rw [← T.sz_items] at hcs
  have hBw := heap_lt h.head
  have CU := Lib.hid (fun n => update_put x (· - k) 118 w.heap.size goes_remove t ((w.alloc (.cells #[.int .i64 k] 3)).drewN n) (HB.out.tree.drewN n) (List.nodup_cons.1 h.nd).2 h.so (by omega) (by have := h.ds; omega) (makes_remove w.heap.size (lcnt x t.items) k _ (by simp [go_sem]) (by omega) (by omega)))
  clear h hcs
  go_enter Try.func84, Try.ntmps84
  go_wp2_with fail
  refine CV.out.mono ?_
  rintro e w' ⟨rfl, rfl⟩
  go_wp2_with fail
  go_quiet ((go_at_call 117; exact Calls.quiet_of_same ((CZ.out _).mono fun e w' h => ⟨h.1, h.2.symm⟩)))
  go_wp2_with fail
  refine (CU.out nq).mono ?_
  rintro e w1 ⟨t', rfl, hA1, hO1, hi, hnd, hnew⟩
  have hh1 : w1.heap[B]? = _ := (hO1.block B (HB.out.lt B List.mem_cons_self) (List.nodup_cons.1 HB.out.nd).1).trans HB.out.head
  have d1 := cell_of_heap (i := 1) hh1 rfl
  have z1 := frozen_of_heap (i := 1) hh1
  have HF := Lib.hid (became_of H0.out (((Only.refl [] w).alloc (.cells #[.int .i64 k] 3)).drewN nq) hO1 hA1 (fun b hb => (hnew b hb).imp id (fun h => Nat.le_trans (by show w.heap.size ≤ (w.alloc _).heap.size; rw [World.size_alloc]; omega) h)) hnd hi (by have := cnt_items x t H0.out.so; omega))
  clear hA1 hO1 hh1 CU CZ CV HB hi hnew hnd
  go_wp2_with fail
  go_ret
  exact ⟨rfl, _, HF.out⟩

set_option maxRecDepth 100000 in
set_option maxHeartbeats 2000000 in
theorem Add_arg (B : Nat) (t : T) (x k : Int) (w : World) (h : Bag w B t) (hk : k < 0) :
    Calls Try.prog 81 #[.pointer (some ⟨B, 0, none⟩), .int .i64 x, .int .i64 k] w fun e w' => e = .returned (.int .i64 2) ∧ Only [] w w' := by
  have CV := Lib.hid (valid_any B t _ (h.alloc (.cells #[.int .i64 k] 3)).head)
  clear h
  go_enter Try.func81, Try.ntmps81
  go_wp2_with fail
  refine CV.out.mono ?_
  rintro e w' ⟨rfl, rfl⟩
  go_wp2_with fail
  go_ret
  exact ⟨rfl, (Only.refl [] w).alloc _⟩

set_option maxRecDepth 100000 in
set_option maxHeartbeats 2000000 in
theorem Add_full (B : Nat) (t : T) (x k : Int) (w : World) (h : Bag w B t) (hk0 : 0 ≤ k) (hk : 2147483647 - (t.sz : Int) < k) :
    Calls Try.prog 81 #[.pointer (some ⟨B, 0, none⟩), .int .i64 x, .int .i64 k] w fun e w' => e = .returned (.int .i64 4) ∧ Only [] w w' := by
  have HB := h.alloc (.cells #[.int .i64 k] 3)
  have CV := Lib.hid (valid_any B t _ HB.head)
  have CZ := Lib.hid (fun n => Size_any B t _ (HB.drewN n).head (HB.drewN n).tree)
  have hsz := h.sz
  clear h HB
  go_enter Try.func81, Try.ntmps81
  go_wp2_with fail
  refine CV.out.mono ?_
  rintro e w' ⟨rfl, rfl⟩
  go_wp2_with fail
  go_quiet ((go_at_call 114; exact Calls.quiet_of (CZ.out _)))
  go_wp2_with fail
  go_ret
  exact ⟨rfl, ((Only.refl [] w).alloc _).drewN _⟩

set_option maxRecDepth 100000 in
set_option maxHeartbeats 2000000 in
theorem Remove_arg (B : Nat) (t : T) (x k : Int) (w : World) (h : Bag w B t) (hk : k < 0) :
    Calls Try.prog 84 #[.pointer (some ⟨B, 0, none⟩), .int .i64 x, .int .i64 k] w fun e w' => e = .returned (.int .i64 2) ∧ Only [] w w' := by
  have CV := Lib.hid (valid_any B t _ (h.alloc (.cells #[.int .i64 k] 3)).head)
  clear h
  go_enter Try.func84, Try.ntmps84
  go_wp2_with fail
  refine CV.out.mono ?_
  rintro e w' ⟨rfl, rfl⟩
  go_wp2_with fail
  go_ret
  exact ⟨rfl, (Only.refl [] w).alloc _⟩

set_option maxRecDepth 100000 in
set_option maxHeartbeats 2000000 in
theorem Remove_none (B : Nat) (t : T) (x k : Int) (w : World) (h : Bag w B t) (hk0 : 0 ≤ k) (hk : (lcnt x t.items : Int) < k) :
    Calls Try.prog 84 #[.pointer (some ⟨B, 0, none⟩), .int .i64 x, .int .i64 k] w fun e w' => e = .returned (.int .i64 5) ∧ Only [] w w' := by
  have HB := h.alloc (.cells #[.int .i64 k] 3)
  have CV := Lib.hid (valid_any B t _ HB.head)
  have CZ := Lib.hid (fun n => Count_any B t x _ (HB.drewN n).head (HB.drewN n).tree)
  rw [cnt_items x t h.so] at CZ
  clear h HB
  go_enter Try.func84, Try.ntmps84
  go_wp2_with fail
  refine CV.out.mono ?_
  rintro e w' ⟨rfl, rfl⟩
  go_wp2_with fail
  go_quiet ((go_at_call 117; exact Calls.quiet_of_same ((CZ.out _).mono fun e w' h => ⟨h.1, h.2.symm⟩)))
  go_wp2_with fail
  go_ret
  exact ⟨rfl, ((Only.refl [] w).alloc _).drewN _⟩

end Go.Proofs.Ytipgbbhgmoehfaa

/-
  Mul64 and Add64 in this program; the walk of a tree, given what a visit does.
-/
namespace Go.Proofs.Ytipgbbhgmoehfaa
open Go.RowKit
set_option linter.unusedSimpArgs false

theorem add64_any (x y c : Nat) (hc : c ≤ 1) (w : World) :
    (callFunc 123 #[.int .u64 x, .int .u64 y, .int .u64 c]).run Try.prog w =
      .ok (.value (.tuple #[.int .u64 (((x + y + c) % 18446744073709551616 : Nat) : Int), .int .u64 (((x + y + c) / 18446744073709551616 : Nat) : Int)])) w := by
  rw [run_callFunc_extern Try.func123 (by kernel_rfl) (by kernel_rfl) (by kernel_rfl) (e := add64Entry) (by kernel_rfl), run_add64 x y c (by omega) (by omega) (by omega) (by omega)]
  simp only [Result.andThen]
  congr 5 <;> omega

set_option maxRecDepth 100000 in
set_option maxHeartbeats 1000000 in
theorem mul64_any (x y : Nat) (hx : x < 18446744073709551616) (hy : y < 18446744073709551616) (w : World) :
    Calls Try.prog 122 #[.int .u64 x, .int .u64 y] w fun e w' => e = .returned (.tuple #[.int .u64 ((x * y / 18446744073709551616 : Nat) : Int), .int .u64 ((x * y % 18446744073709551616 : Nat) : Int)]) ∧ w = w' := by
  obtain ⟨bd, bt, bw, hhi⟩ := Lib.mul64_hi x y hx hy
  have ba := Lib.half_mul_le (a := x / 4294967296) (b := y / 4294967296) (by omega) (by omega)
  have bb := Lib.half_mul_le (a := x / 4294967296) (b := y % 4294967296) (by omega) (by omega)
  have bc := Lib.half_mul_le (a := x % 4294967296) (b := y / 4294967296) (by omega) (by omega)
  have ba' : x / 4294967296 * (y / 4294967296) < 18446744073709551616 := by omega
  have bb' : x / 4294967296 * (y % 4294967296) < 18446744073709551616 := by omega
  have bc' : x % 4294967296 * (y / 4294967296) < 18446744073709551616 := by omega
  have bh1 : x / 4294967296 * (y / 4294967296) + (x / 4294967296 * (y % 4294967296) + x % 4294967296 * (y % 4294967296) / 4294967296) / 4294967296 < 18446744073709551616 := by omega
  have bh : x / 4294967296 * (y / 4294967296) + (x / 4294967296 * (y % 4294967296) + x % 4294967296 * (y % 4294967296) / 4294967296) / 4294967296 + ((x / 4294967296 * (y % 4294967296) + x % 4294967296 * (y % 4294967296) / 4294967296) % 4294967296 + x % 4294967296 * (y / 4294967296)) / 4294967296 < 18446744073709551616 := by omega
  go_enter Try.func122, Try.ntmps122
  go_wp2
  simp only [Mul64.maskN x hx, Mul64.maskN y hy, Mul64.divN, Mul64.mulN, Mul64.addN, Mul64.wrapN _ bd, Mul64.wrapN _ bb', Mul64.wrapN _ bt, Mul64.maskN _ bt, Mul64.wrapN _ bc', Mul64.wrapN _ bw, Mul64.wrapN _ ba', Mul64.wrapN _ bh1, Mul64.wrapN _ bh, Mul64.wrapM]
  rw [hhi]
  go_ret2
  exact ⟨rfl, rfl⟩

/-- The nodes, and the boxes of yield functions, lie as they lay. -/
def KeepT (W W' : World) : Prop := ∀ (k : Nat) (cs : Array Value) (t : TypeId), t = 189 ∨ t = 999999 → W.heap[k]? = some (.cells cs t (0, 0)) → W'.heap[k]? = some (.cells cs t (0, 0))
theorem KeepT.refl (W : World) : KeepT W W := fun _ _ _ _ h => h
theorem KeepT.trans {A B C : World} (h : KeepT A B) (k : KeepT B C) : KeepT A C := fun i cs t ht hi => k i cs t ht (h i cs t ht hi)
theorem T.At.keep {t : T} {w w' : World} (h : t.At w) (hk : KeepT w w') : t.At w' := by
  induction t with
  | leaf => trivial
  | node g l x u r ihl ihr => exact ⟨hk _ _ _ (.inl rfl) h.1, ihl h.2.1, ihr h.2.2⟩
theorem KeepT.of_only {gs : List Nat} {A B : World} (h : Only gs A B) (ho : ∀ k, k ∈ gs → ∀ (cs : Array Value) (t : TypeId), A.heap[k]? = some (.cells cs t (0, 0)) → t ≠ 189 ∧ t ≠ 999999) : KeepT A B := by
  intro k cs t ht hk
  refine (h.block k (heap_lt hk) (fun hm => ?_)).trans hk
  have := ho k hm cs t hk
  rcases ht with rfl | rfl
  · exact this.1 rfl
  · exact this.2 rfl

/-- How the call of a visit ends. -/
def Visited (J Jx : Items → World → Prop) (pre : Items) (p : Int × Nat) (W : World) (e : Ending) (W' : World) : Prop :=
  (e = .returned (.bool true) ∧ J (pre ++ [p]) W' ∧ KeepT W W') ∨ (e = .returned (.bool false) ∧ Jx (pre ++ [p]) W')
def Walked (J Jx : Items → World → Prop) (pre its : Items) (W : World) (e : Ending) (W' : World) : Prop :=
  (e = .returned (.bool true) ∧ J (pre ++ its) W' ∧ KeepT W W') ∨ (e = .returned (.bool false) ∧ ∃ q, q <+: its ∧ Jx (pre ++ q) W')

set_option maxRecDepth 100000 in
set_option maxHeartbeats 2000000 in
theorem walk_any (K : Nat) (hK : Goes K) (env : Array Value) (L : Items) (J Jx : Items → World → Prop)
    (hV : ∀ g l x u r pre post W, L = pre ++ (x, u) :: post → J pre W → (T.node g l x u r).At W → Calls Try.prog K (#[.pointer (some ⟨g, 0, none⟩)] ++ env) W (Visited J Jx pre (x, u) W))
    (t : T) : ∀ (pre post : Items) (W : World), L = pre ++ (t.items ++ post) → t.At W → J pre W →
      Calls Try.prog 120 #[t.ptr, .func (.func K) #[] env] W (Walked J Jx pre t.items W) := by
  induction t with
  | leaf =>
    intro pre post W _ _ hJ
    show Calls Try.prog 120 #[.pointer none, .func (.func K) #[] env] W _
    clear hK
    go_enter Try.func120, Try.ntmps120
    go_wp2_with fail
    go_ret
    exact .inl ⟨rfl, by simpa [T.items] using hJ, KeepT.refl _⟩
  | node g l x u r ihl ihr =>
    intro pre post W hL hA hJ
    have hA2 := hA
    obtain ⟨h1, h2, h3⟩ := hA
    have hL1 : L = pre ++ (l.items ++ ((x, u) :: r.items ++ post)) := by rw [hL]; simp [T.items]
    have hL2 : L = (pre ++ l.items) ++ (x, u) :: (r.items ++ post) := by rw [hL]; simp [T.items]
    have hL3 : L = (pre ++ l.items ++ [(x, u)]) ++ (r.items ++ post) := by rw [hL]; simp [T.items]
    have C1 := Lib.hid ((ihl pre ((x, u) :: r.items ++ post) W hL1 h2 hJ))
    have C2 := Lib.hid (fun W1 (hk : KeepT W W1) (hj : J (pre ++ l.items) W1) => hV g l x u r (pre ++ l.items) (r.items ++ post) W1 hL2 hj (hA2.keep hk))
    have C3 := Lib.hid (fun W2 (hk : KeepT W W2) (hj : J (pre ++ l.items ++ [(x, u)]) W2) => ihr (pre ++ l.items ++ [(x, u)]) post W2 hL3 (h3.keep hk) hj)
    have c0 := cell_of_heap (i := 0) h1 rfl
    have HG := Lib.hid h1
    unfold Goes at hK
    replace c0 : W.cell? ⟨g, 0, none⟩ = some l.ptr := c0
    clear ihl ihr hL hA2 h1 h2 h3 hJ hV hL1 hL2 hL3
    show Calls Try.prog 120 #[.pointer (some ⟨g, 0, none⟩), .func (.func K) #[] env] W _
    go_enter Try.func120, Try.ntmps120
    go_wp2_with fail
    refine C1.out.mono ?_
    rintro e W1 (⟨rfl, hj1, hk1⟩ | ⟨rfl, q, hq, hx⟩)
    · have C2' := Lib.hid (C2.out W1 hk1 hj1)
      have HK1 := Lib.hid hk1
      clear hj1 hk1 C2 C1
      go_wp2_with fail
      refine C2'.out.mono ?_
      rintro e W2 (⟨rfl, hj2, hk2⟩ | ⟨rfl, hx⟩)
      · have C3' := Lib.hid (C3.out W2 (HK1.out.trans hk2) hj2)
        have c1 := cell_of_heap (i := 1) (hk2 g _ _ (.inl rfl) (HK1.out g _ _ (.inl rfl) HG.out)) rfl
        replace c1 : W2.cell? ⟨g, 1, none⟩ = some r.ptr := c1
        have HK2 := Lib.hid hk2
        clear hj2 hk2 C3 C2'
        go_wp2_with fail
        refine C3'.out.mono ?_
        rintro e W3 (⟨rfl, hj3, hk3⟩ | ⟨rfl, q, hq, hx⟩)
        · go_wp2_with fail
          go_ret
          exact .inl ⟨rfl, by simpa [T.items] using hj3, (HK1.out.trans HK2.out).trans hk3⟩
        · go_wp2_with fail
          go_ret
          obtain ⟨z, hz⟩ := hq
          exact .inr ⟨rfl, l.items ++ (x, u) :: q, ⟨z, by simp [T.items, ← hz]⟩, by simpa using hx⟩
      · go_wp2_with fail
        go_ret
        exact .inr ⟨rfl, l.items ++ [(x, u)], ⟨r.items, by simp [T.items]⟩, by simpa using hx⟩
    · go_wp2_with fail
      go_ret
      exact .inr ⟨rfl, q, hq.trans (by simp [T.items]), hx⟩

end Go.Proofs.Ytipgbbhgmoehfaa

/-
  Sum.
-/
namespace Go.Proofs.Ytipgbbhgmoehfaa
open Go.RowKit
set_option linter.unusedSimpArgs false

/-- The 128 bits of a pair of words are those of an integer. -/
def Acc (hi lo : Nat) (s : Int) : Prop := hi < 18446744073709551616 ∧ lo < 18446744073709551616 ∧ ∃ q : Int, (hi : Int) * 18446744073709551616 + lo = s + q * 340282366920938463463374607431768211456
theorem acc_step {hi lo ux n h0 l0 h1 : Nat} {s x : Int} (h : Acc hi lo s) (hux : ∃ q : Int, (ux : Int) = x + q * 18446744073709551616 ∧ ∃ p : Int, (h1 : Int) = h0 - q * n + p * 18446744073709551616)
    (hh0 : ux * n = h0 * 18446744073709551616 + l0) : Acc ((hi + h1 + (lo + l0 + 0) / 18446744073709551616) % 18446744073709551616) ((lo + l0 + 0) % 18446744073709551616) (s + x * n) := by
  obtain ⟨h1', h2', q0, h3'⟩ := h
  obtain ⟨q, hq, p, hp⟩ := hux
  refine ⟨Nat.mod_lt _ (by omega), Nat.mod_lt _ (by omega), q0 + p - ((hi + h1 + (lo + l0 + 0) / 18446744073709551616) / 18446744073709551616 : Nat), ?_⟩
  have e : x * n = (h0 : Int) * 18446744073709551616 + l0 - q * n * 18446744073709551616 := by
    have hh : (ux : Int) * n = (h0 : Int) * 18446744073709551616 + l0 := by rw [← Int.natCast_mul, hh0]; omega
    rw [hq, Int.add_mul, Int.mul_right_comm] at hh
    omega
  generalize x * n = xn at *
  generalize q * (n : Int) = qn at *
  omega

theorem wrap_u64_of (x : Int) : ∃ u : Nat, IntKind.u64.wrap x = (u : Int) ∧ u < 18446744073709551616 ∧ ∃ q : Int, (u : Int) = x + q * 18446744073709551616 :=
  ⟨(IntKind.u64.wrap x).toNat, by rw [IntKind.wrap_u64]; omega, by rw [IntKind.wrap_u64]; omega, -(x / 18446744073709551616), by rw [IntKind.wrap_u64]; omega⟩

theorem neg_u64 {x : Int} {u : Nat} (h : IntKind.u64.wrap x = (u : Int)) (hx : x < 0) (hx0 : -9223372036854775808 ≤ x) : (u : Int) = x + 1 * 18446744073709551616 := by
  rw [IntKind.wrap_u64] at h; omega
theorem pos_u64 {x : Int} {u : Nat} (h : IntKind.u64.wrap x = (u : Int)) (hx : ¬ x < 0) (hx0 : x ≤ 9223372036854775807) : (u : Int) = x + 0 * 18446744073709551616 := by
  rw [IntKind.wrap_u64] at h; omega
theorem set_words {W : World} {S : Nat} {a b : Value} (h : W.heap[S]? = some (.cells #[a, b] 185 (0, 0))) (c d : Value) : ((W.setCell ⟨S, 1, none⟩ d).setCell ⟨S, 0, none⟩ c).heap[S]? = some (.cells #[c, d] 185 (0, 0)) :=
  heap_setCell_same _ S 0 _ _ c (heap_setCell_same W S 1 _ _ d h)

end Go.Proofs.Ytipgbbhgmoehfaa

/-
  Sum and Squares of a bag.
-/
namespace Go.Proofs.Ytipgbbhgmoehfaa
open Go.RowKit
set_option linter.unusedSimpArgs false

def itSum : Items → Int
  | [] => 0
  | p :: l => p.1 * p.2 + itSum l
theorem itSum_append (a b : Items) : itSum (a ++ b) = itSum a + itSum b := by
  induction a with
  | nil => simp [itSum]
  | cons p a ih => simp only [List.cons_append, itSum, ih]; omega
theorem itSum_snoc (a : Items) (p : Int × Nat) : itSum (a ++ [p]) = itSum a + p.1 * p.2 := by rw [itSum_append]; simp [itSum]
/-- The numbers are of the type int64. -/
def Ranged (l : Items) : Prop := ∀ p ∈ l, -9223372036854775808 ≤ p.1 ∧ p.1 ≤ 9223372036854775807
theorem cnt_le_szL {l : Items} {p : Int × Nat} (h : p ∈ l) : p.2 ≤ T.szL l := by
  induction l with
  | nil => simp at h
  | cons q l ih =>
    simp only [T.szL]
    rcases List.mem_cons.1 h with rfl | h
    · omega
    · have := ih h; omega

theorem acc_zero : Acc 0 0 (itSum []) := ⟨by omega, by omega, 0, by simp [itSum]⟩
theorem acc_end {hi lo : Nat} {s : Int} (h : Acc hi lo s) (h0 : -9223372036854775808 ≤ s) (h1 : s ≤ 9223372036854775807) : IntKind.i64.wrap (lo : Int) = s ∧ (hi : Int) = if s < 0 then 18446744073709551615 else 0 := by
  obtain ⟨a, b, q, hq⟩ := h
  have hq' : q = 0 ∧ 0 ≤ s ∨ q = 1 ∧ s < 0 := by omega
  rw [IntKind.wrap_i64]
  rcases hq' with ⟨rfl, hs⟩ | ⟨rfl, hs⟩
  · rw [if_neg (by omega)]; omega
  · rw [if_pos hs]; omega

theorem keep_words {S : Nat} {A B : World} {cs : Array Value} (h : Only [S] A B) (hS : A.heap[S]? = some (.cells cs 185 (0, 0))) : KeepT A B := by
  refine KeepT.of_only h fun k hk cs' t ht => ?_
  rw [List.mem_singleton.1 hk, hS] at ht
  cases ht
  exact ⟨by decide, by decide⟩

def itSq : Items → Nat
  | [] => 0
  | p :: l => p.1.natAbs * p.1.natAbs * p.2 + itSq l
theorem itSq_append (a b : Items) : itSq (a ++ b) = itSq a + itSq b := by
  induction a with
  | nil => simp [itSq]
  | cons p a ih => simp only [List.cons_append, itSq, ih]; omega

set_option maxRecDepth 100000 in
set_option maxHeartbeats 2000000 in
theorem sqVisit (g S n lo : Nat) (l r : T) (x : Int) (w : World) (hA : (T.node g l x n r).At w) (hS : w.heap[S]? = some (.cells #[.int .u64 0, .int .u64 lo] 185 (0, 0)))
    (hx0 : -9223372036854775808 ≤ x) (hx1 : x ≤ 9223372036854775807) (hn : n ≤ 2147483647) (hn1 : 1 ≤ n) (hs : lo + x.natAbs * x.natAbs * n ≤ 9223372036854775807) :
    Calls Try.prog 121 #[.pointer (some ⟨g, 0, none⟩), .pointer (some ⟨S, 0, none⟩)] w fun e w' => e = .returned (.bool true) ∧ Only [S] w w' ∧
      w'.heap[S]? = some (.cells #[.int .u64 0, .int .u64 (lo + x.natAbs * x.natAbs * n : Nat)] 185 (0, 0)) := by
  obtain ⟨h1, _, _⟩ := hA
  have c2 := cell_of_heap (i := 2) h1 rfl
  have c3 := cell_of_heap (i := 3) h1 rfl
  replace c2 : w.cell? ⟨g, 2, none⟩ = some (.int .i64 x) := c2
  replace c3 : w.cell? ⟨g, 3, none⟩ = some (.int .i64 n) := c3
  have s0 := cell_of_heap (i := 0) hS rfl
  have s1 := cell_of_heap (i := 1) hS rfl
  have z0 := frozen_of_heap (i := 0) hS
  have z1 := frozen_of_heap (i := 1) hS
  have HS := Lib.hid hS
  replace s0 : w.cell? ⟨S, 0, none⟩ = some (.int .u64 0) := s0
  replace s1 : w.cell? ⟨S, 1, none⟩ = some (.int .u64 lo) := s1
  obtain ⟨ux, hux, hux2, qx, hqx⟩ := wrap_u64_of x
  obtain ⟨a, ha⟩ : ∃ a, x.natAbs = a := ⟨_, rfl⟩
  rw [ha] at hs ⊢
  obtain ⟨sq, hsq⟩ : ∃ sq, a * a = sq := ⟨_, rfl⟩
  rw [hsq] at hs ⊢
  have hsq2 : sq ≤ 9223372036854775807 := by
    have : sq * 1 ≤ sq * n := Nat.mul_le_mul_left _ hn1
    omega
  obtain ⟨m, hm⟩ : ∃ m, sq * n = m := ⟨_, rfl⟩
  rw [hm] at hs ⊢
  have hm2 : m ≤ 9223372036854775807 := by omega
  have C1 := Lib.hid (fun W => mul64_any a a (by omega) (by omega) W)
  rw [hsq, Nat.div_eq_of_lt (by omega), Nat.mod_eq_of_lt (by omega)] at C1
  have C2 := Lib.hid (fun W => mul64_any sq n (by omega) (by omega) W)
  rw [hm, Nat.div_eq_of_lt (by omega), Nat.mod_eq_of_lt (by omega)] at C2
  have A1 : ∀ W, (callFunc 123 #[.int .u64 (lo : Int), .int .u64 (m : Int), .int .u64 0]).run Try.prog W = .ok (.value (.tuple #[.int .u64 ((lo + m : Nat) : Int), .int .u64 0])) W := fun W => by
    have := add64_any lo m 0 (by omega) W
    rw [Nat.add_zero, Nat.mod_eq_of_lt (by omega), Nat.div_eq_of_lt (by omega)] at this
    exact this
  have A2 : ∀ W, (callFunc 123 #[.int .u64 0, .int .u64 0, .int .u64 0]).run Try.prog W = .ok (.value (.tuple #[.int .u64 0, .int .u64 0])) W := fun W => by
    have := add64_any 0 0 0 (by omega) W
    exact this
  obtain ⟨lm, hlm⟩ : ∃ lm, lo + m = lm := ⟨_, rfl⟩
  rw [hlm] at hs A1 ⊢
  by_cases hx : x < 0
  · have hneg : IntKind.u64.wrap (-(ux : Int)) = (a : Int) := by
      have := neg_u64 hux hx hx0
      rw [IntKind.wrap_u64]
      omega
    have hle : decide ((lm : Int) ≤ 9223372036854775807) = true := by simp; omega
    clear hqx ha hsq hm hlm hS
    go_enter Try.func121, Try.ntmps121
    go_wp2_with fail
    refine (C1.out _).mono ?_
    rintro e w' ⟨rfl, rfl⟩
    go_wp2_with fail
    refine (C2.out _).mono ?_
    rintro e w' ⟨rfl, rfl⟩
    go_wp2_with fail
    go_ret
    exact ⟨rfl, ((Only.refl _ w).setCell (by simp) _).setCell (by simp) _, set_words HS.out _ _⟩
  · have hua : ux = a := by
      have := pos_u64 hux hx hx1
      omega
    subst hua
    have hle : decide ((lm : Int) ≤ 9223372036854775807) = true := by simp; omega
    clear hqx ha hsq hm hlm hS
    go_enter Try.func121, Try.ntmps121
    go_wp2_with fail
    refine (C1.out _).mono ?_
    rintro e w' ⟨rfl, rfl⟩
    go_wp2_with fail
    refine (C2.out _).mono ?_
    rintro e w' ⟨rfl, rfl⟩
    go_wp2_with fail
    go_ret
    exact ⟨rfl, ((Only.refl _ w).setCell (by simp) _).setCell (by simp) _, set_words HS.out _ _⟩

set_option maxRecDepth 100000 in
set_option maxHeartbeats 2000000 in
theorem Squares_any (B : Nat) (t : T) (w : World) (h : Bag w B t) (hr : Ranged t.items) (h1 : itSq t.items ≤ 9223372036854775807) :
    Calls Try.prog 87 #[.pointer (some ⟨B, 0, none⟩)] w fun e w' => e = .returned (.tuple #[.int .i64 (itSq t.items), .int .i64 0]) ∧ Only [] w w' := by
  have CV := Lib.hid (valid_any B t w h.head)
  have c1 := h.head.c1
  have HB := Lib.hid h
  have HR := Lib.hid hr
  have hBw := heap_lt h.head
  have HS := Lib.hid h1
  have CW := Lib.hid (fun W (hA : t.At W) (hJ : W.heap[w.heap.size]? = some (.cells #[.int .u64 0, .int .u64 (itSq [] : Nat)] 185 (0, 0))) (hO : Only [] w W) =>
    walk_any 121 (fun _ _ => by kernel_rfl) #[.pointer (some ⟨w.heap.size, 0, none⟩)] t.items
      (fun pre W => Only [] w W ∧ W.heap[w.heap.size]? = some (.cells #[.int .u64 0, .int .u64 (itSq pre : Nat)] 185 (0, 0))) (fun _ _ => False)
      (fun g l x u r pre post W hL hJ hA => by
        obtain ⟨hO, hS⟩ := hJ
        have hm : (x, u) ∈ t.items := by rw [hL]; simp
        have hu := cnt_le_szL hm
        rw [← T.sz_items] at hu
        have hb : itSq pre + x.natAbs * x.natAbs * u ≤ 9223372036854775807 := by
          have := HS.out
          rw [hL, itSq_append] at this
          simp only [itSq] at this
          omega
        have he : itSq (pre ++ [(x, u)]) = itSq pre + x.natAbs * x.natAbs * u := by rw [itSq_append]; simp [itSq]
        refine (sqVisit g w.heap.size u (itSq pre) l r x W hA hS (HR.out _ hm).1 (HR.out _ hm).2 (Nat.le_trans hu HB.out.sz) (HB.out.po _ hm) hb).mono ?_
        rintro e W' ⟨rfl, hO2, hS'⟩
        exact .inl ⟨rfl, ⟨hO.to hO2 (fun i hi hlt => by simp at hi; omega), by rw [he]; exact hS'⟩, keep_words hO2 hS⟩)
      t [] [] W (by simp) hA ⟨hO, hJ⟩)
  obtain ⟨s, hs⟩ : ∃ s, itSq t.items = s := ⟨_, rfl⟩
  have HQ := Lib.hid hs
  rw [hs] at h1 ⊢
  clear h hr hs
  go_enter Try.func87, Try.ntmps87
  go_wp2_with fail
  refine CV.out.mono ?_
  rintro e w' ⟨rfl, rfl⟩
  go_wp2_with fail
  refine (CW.out _ (HB.out.tree.only ((Only.refl [] w).alloc _) (fun _ _ h => by simp at h)) (heap_alloc_new _ _) ((Only.refl [] w).alloc _)).mono ?_
  rintro e w1 (⟨rfl, ⟨hO, hS2⟩, _⟩ | ⟨_, q, _, hx⟩)
  · rw [List.nil_append, HQ.out] at hS2
    have s1 := cell_of_heap (i := 1) hS2 rfl
    replace s1 : w1.cell? ⟨w.heap.size, 1, none⟩ = some (.int .u64 s) := s1
    have HO := Lib.hid hO
    have e1 : IntKind.i64.wrap (s : Int) = (s : Int) := IntWalk.i64_in _ (by omega)
    clear hS2 hO CW CV
    go_wp2_with fail
    go_ret2
    exact ⟨rfl, HO.out⟩
  · exact hx.elim

end Go.Proofs.Ytipgbbhgmoehfaa
