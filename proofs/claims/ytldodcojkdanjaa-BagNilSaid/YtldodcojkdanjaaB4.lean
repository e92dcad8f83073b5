/-
  The law's own helpers: filled.
-/
import Derived.Test.YtldodcojkdanjaaB3
import Derived.Test.YtldodcojkdanjaaA12
namespace Go.Proofs.Ytldodcojkdanjaa
open Go.RowKit
set_option linter.unusedSimpArgs false

/-- A bag of the call's own: it lies in new blocks, and nothing that was there has changed. -/
structure OwnBag (w W : World) (B : Nat) (t : T) : Prop where
  bag : Bag W B t
  new : ∀ k, k ∈ B :: t.blocks → w.heap.size ≤ k
  only : Only [] w W
theorem OwnBag.step {w W W' : World} {B : Nat} {t t' : T} {L : Items} (h : OwnBag w W B t) (k : Became W W' B t t' L) : OwnBag w W' B t' :=
  ⟨k.bag, fun b hb => by
    rcases List.mem_cons.1 hb with rfl | hb
    · exact h.new b List.mem_cons_self
    · rcases k.fresh b hb with hb | hb
      · exact h.new b (List.mem_cons_of_mem _ hb)
      · exact Nat.le_trans h.only.size hb, h.only.to k.only fun i hi hlt => by have := h.new i hi; omega⟩
theorem OwnBag.keep {w W W' : World} {B : Nat} {t : T} (h : OwnBag w W B t) (k : Only [] W W') : OwnBag w W' B t :=
  ⟨h.bag.only k fun _ _ hm => by simp at hm, h.new, h.only.trans k⟩
theorem OwnBag.keepN {w W : World} {B : Nat} {t : T} (h : OwnBag w W B t) (n : Nat) : OwnBag w (W.drewN n) B t := h.keep ((Only.refl [] W).drewN n)

/-- A bag holds the numbers of a list, each once. -/
structure Holds (t : T) (zs : List Int) : Prop where
  cnt : ∀ y, lcnt y t.items = eqs y zs
  rank : ∀ y, lrank y t.items = lss y zs
  sz : t.sz = zs.length
  ranged : ∀ p ∈ t.items, p.1 ∈ zs
theorem Holds.nil : Holds .leaf [] := ⟨fun _ => rfl, fun _ => rfl, rfl, fun p hp => by simp [T.items] at hp⟩
theorem Holds.snoc {t t' : T} {zs : List Int} {x : Int} (h : Holds t zs) (hs : Sorted t.items) (e : t'.items = lput x (lcnt x t.items + 1) t.items) : Holds t' (zs ++ [x]) := by
  refine ⟨fun y => ?_, fun y => ?_, ?_, fun p hp => ?_⟩
  · rw [e, lcnt_lput hs, eqs_snoc, ← h.cnt]
    by_cases hy : y = x
    · rw [if_pos hy, if_pos hy.symm, hy]
    · rw [if_neg hy, if_neg (fun e => hy e.symm)]; rfl
  · have := lrank_lput (y := y) (x := x) (n := lcnt x t.items + 1) hs
    rw [e, lss_snoc, ← h.rank]
    split at this <;> rename_i hxy
    · rw [if_pos hxy]; omega
    · rw [if_neg hxy]; omega
  · have := lput_sz (x := x) (n := lcnt x t.items + 1) hs
    rw [T.sz_items, e, List.length_append, List.length_singleton, ← h.sz, T.sz_items]
    omega
  · rw [e] at hp
    rcases lput_mem hp with ⟨rfl, _⟩ | hp
    · simp
    · exact List.mem_append_left _ (h.ranged p hp)

def side (f : Nat → Int) (n : Nat) (back : Bool) : Nat → Int := fun i => if back then f (n - 1 - i) else f i
theorem vals_back (f : Nat → Int) (n : Nat) : vals (fun i => f (n - 1 - i)) n = (vals f n).reverse := by
  unfold vals
  refine List.ext_getElem (by simp) fun i h1 h2 => ?_
  simp at h1
  simp [h1]
theorem Holds.perm {t : T} {zs ys : List Int} (h : Holds t zs) (e : zs = ys.reverse) : Holds t ys := by
  subst e
  refine ⟨fun y => ?_, fun y => ?_, ?_, fun p hp => ?_⟩
  · rw [h.cnt]; exact List.countP_reverse
  · rw [h.rank]; exact List.countP_reverse
  · rw [h.sz, List.length_reverse]
  · simpa using h.ranged p hp

set_option maxRecDepth 100000 in
set_option maxHeartbeats 2000000 in
theorem filled_fwd (A : Option Addr) (n c : Nat) (f : Nat → Int) (w : World) (h : IntsIn w .i64 A n f) (hn : n ≤ 300) :
    Calls Try.prog 11 #[.slice A n c, .bool false] w fun e w' => ∃ B t, e = .returned (.pointer (some ⟨B, 0, none⟩)) ∧ OwnBag w w' B t ∧ Holds t (vals f n) := by
  have HI := Lib.hid h
  clear h
  go_enter Try.func11, Try.ntmps11
  go_wp2_with fail
  refine (New_any w).mono ?_
  rintro e w1 ⟨rfl, hb1, hO1⟩
  have HB := Lib.hid (show OwnBag w w1 w.heap.size .leaf from ⟨hb1, fun k hk => by simp [T.blocks] at hk; omega, hO1⟩)
  clear hb1 hO1
  go_wp2_with fail
  go_loopw [6] (fun i wr => ∃ (k : Nat) (t : T), k ≤ n ∧ i = .int .i64 k ∧ Hid (OwnBag w wr w.heap.size t) ∧ Hid (Holds t (vals f k))) (fun i _ => n - (intOf i).toNat)
  case atStart => exact ⟨0, .leaf, Nat.zero_le _, rfl, HB, Lib.hid Holds.nil⟩
  case round =>
    obtain ⟨k, t, hk, rfl, hb, hh⟩ := hrel
    by_cases hlt : k < n
    · obtain ⟨b, off, rfl, hc⟩ := (HI.out.only hb.out.only).cell hlt
      have hsz := hh.out.sz
      rw [vals_len] at hsz
      have CA := Lib.hid (Add_ok w.heap.size t (f k) 1 wr hb.out.bag (by omega))
      clear hsz
      go_wp2_with fail
      refine CA.out.mono ?_
      rintro e w2 ⟨rfl, t', hbec⟩
      have H1 := Lib.hid (hb.out.step hbec)
      have H2 := Lib.hid (show Holds t' (vals f (k + 1)) from by rw [vals_succ]; exact hh.out.snoc hb.out.bag.so hbec.items)
      clear hbec hb hh CA
      go_wp2_with fail
      go_roundw
      case rel => exact ⟨k + 1, t', by omega, by go_num, H1, H2⟩
      case measure => simp [intOf]; omega
    · obtain rfl : k = n := by omega
      go_wp2_with fail
      go_ret
      exact ⟨_, t, rfl, hb.out, hh.out⟩

set_option maxRecDepth 100000 in
set_option maxHeartbeats 2000000 in
theorem filled_back (A : Option Addr) (n c : Nat) (f : Nat → Int) (w : World) (h : IntsIn w .i64 A n f) (hn : n ≤ 300) :
    Calls Try.prog 11 #[.slice A n c, .bool true] w fun e w' => ∃ B t, e = .returned (.pointer (some ⟨B, 0, none⟩)) ∧ OwnBag w w' B t ∧ Holds t (vals f n) := by
  have HI := Lib.hid h
  clear h
  go_enter Try.func11, Try.ntmps11
  go_wp2_with fail
  refine (New_any w).mono ?_
  rintro e w1 ⟨rfl, hb1, hO1⟩
  have HB := Lib.hid (show OwnBag w w1 w.heap.size .leaf from ⟨hb1, fun k hk => by simp [T.blocks] at hk; omega, hO1⟩)
  clear hb1 hO1
  go_wp2_with fail
  go_loopw [6] (fun i wr => ∃ (k : Nat) (t : T), k ≤ n ∧ i = .int .i64 k ∧ Hid (OwnBag w wr w.heap.size t) ∧ Hid (Holds t (vals (fun i => f (n - 1 - i)) k))) (fun i _ => n - (intOf i).toNat)
  case atStart => exact ⟨0, .leaf, Nat.zero_le _, rfl, HB, Lib.hid Holds.nil⟩
  case round =>
    obtain ⟨k, t, hk, rfl, hb, hh⟩ := hrel
    by_cases hlt : k < n
    · obtain ⟨b, off, rfl, hc⟩ := (HI.out.only hb.out.only).cell (show n - 1 - k < n by omega)
      obtain ⟨m, hm⟩ : ∃ m, n - 1 - k = m := ⟨_, rfl⟩
      have hsz := hh.out.sz
      rw [vals_len] at hsz
      have CA := Lib.hid (Add_ok w.heap.size t (f (n - 1 - k)) 1 wr hb.out.bag (by omega))
      have q1 : (n : Int) - 1 - (k : Int) = (m : Int) := by omega
      have q2 : (m : Int) < (n : Int) := by omega
      rw [hm] at hc CA
      have HM := Lib.hid hm
      clear hsz hm
      go_wp2_with fail
      refine CA.out.mono ?_
      rintro e w2 ⟨rfl, t', hbec⟩
      have H1 := Lib.hid (hb.out.step hbec)
      have H2 := Lib.hid (show Holds t' (vals (fun i => f (n - 1 - i)) (k + 1)) from by rw [vals_succ]; exact hh.out.snoc hb.out.bag.so (by rw [HM.out]; exact hbec.items))
      clear hbec hb hh CA
      go_wp2_with fail
      go_roundw
      case rel => exact ⟨k + 1, t', by omega, by go_num, H1, H2⟩
      case measure => simp [intOf]; omega
    · obtain rfl : k = n := by omega
      go_wp2_with fail
      go_ret
      exact ⟨_, t, rfl, hb.out, hh.out.perm (vals_back f k)⟩
end Go.Proofs.Ytldodcojkdanjaa
