/-
  The contracts of Rank, Kth, Min, Max.
-/
import Derived.Test.YtbafacdknaopjaaA10
namespace Go.Proofs.Ytbafacdknaopjaa
open Go.RowKit
set_option linter.unusedSimpArgs false

namespace T
def rank (x : Int) : T → Nat
  | leaf => 0
  | node _ l y t r => if x ≤ y then l.rank x else l.sz + t + r.rank x
theorem rank_le (x : Int) (t : T) : t.rank x ≤ t.sz := by
  induction t with
  | leaf => simp [rank]
  | node g l y u r ihl ihr => simp only [rank, sz]; split <;> omega
def kth : T → Nat → Int
  | leaf, _ => 0
  | node _ l x t r, k => if k < l.sz then l.kth k else if k < l.sz + t then x else r.kth (k - (l.sz + t))
end T

set_option maxRecDepth 100000 in
set_option maxHeartbeats 2000000 in
theorem Kth_in (B : Nat) (t : T) (k : Nat) (w : World) (h : HeadAt w B t) (ht : t.At w) (hs : t.sz ≤ 2 ^ 60) (hk : k < t.sz) : Calls Try.prog 132 #[.pointer (some ⟨B, 0, none⟩), .int .i64 k] w fun e w' => e = .returned (.tuple #[.int .i64 (t.kth k), .bool true]) ∧ ∃ n, w' = w.drewN n := by
  have CV := Lib.hid (tree_any B t w h)
  have CZ := Lib.hid (Size_any B t w h ht)
  have HT := Lib.hid ht
  clear h ht
  have q1 : decide ((k : Int) < 0) = false := by simp
  have q2 : decide (t.sz ≤ k) = false := by simp; omega
  go_enter Try.func132, Try.ntmps132
  go_wp2_with fail
  refine CV.out.mono ?_
  rintro e w' ⟨rfl, rfl⟩
  go_wp2_with fail
  refine CZ.out.mono ?_
  rintro e w' ⟨rfl, n0, rfl⟩
  go_wp2_with fail
  go_loopg [1, 6] t.ds (fun q a v wr => ∃ (s : T) (c n : Nat), v = s.ptr ∧ a = .int .i64 c ∧ Hid (s.ds = q) ∧ wr = w.drewN n ∧ Hid (s.At w) ∧ Hid (s.kth c = t.kth k) ∧ c < s.sz ∧ s.sz ≤ t.sz)
  case atStart => exact ⟨t, k, n0, rfl, rfl, Lib.hid rfl, rfl, HT, Lib.hid rfl, hk, Nat.le_refl _⟩
  case round =>
    obtain ⟨s, c, n, hv, rfl, hq, rfl, hs2, hx, hc, hc2⟩ := hrel
    cases s with
    | leaf => simp [T.sz] at hc
    | node g l y u r =>
      obtain ⟨h1, h2, h3⟩ := id hs2.out
      have c0 := cell_of_heap (i := 0) h1 rfl
      have c1 := cell_of_heap (i := 1) h1 rfl
      have c2 := cell_of_heap (i := 2) h1 rfl
      have c3 := cell_of_heap (i := 3) h1 rfl
      have HL := Lib.hid h2
      have HR := Lib.hid h3
      have hq2 := hq.out
      have CS := Lib.hid (fun W (h : l.At W) => sizes_any l W h)
      simp only [T.ds] at hq2
      simp only [T.sz] at hc hc2
      clear h1 h2 h3 hs2 hq
      replace c0 : w.cell? ⟨g, 0, none⟩ = some l.ptr := c0
      replace c1 : w.cell? ⟨g, 1, none⟩ = some r.ptr := c1
      replace c2 : w.cell? ⟨g, 2, none⟩ = some (.int .i64 y) := c2
      replace c3 : w.cell? ⟨g, 3, none⟩ = some (.int .i64 u) := c3
      replace hv : _ = Value.pointer (some ⟨g, 0, none⟩) := hv
      subst hv
      have w1 : IntKind.i64.wrap ((l.sz : Int) + (u : Int)) = (l.sz : Int) + (u : Int) := IntWalk.i64_in _ (by omega)
      have w2 : IntKind.i64.wrap ((c : Int) - ((l.sz : Int) + (u : Int))) = (c : Int) - ((l.sz : Int) + (u : Int)) := IntWalk.i64_in _ (by omega)
      by_cases hlt : c < l.sz
      · have HX := Lib.hid (show l.kth c = t.kth k by have := hx.out; simpa [T.kth, hlt] using this)
        clear hx
        go_wp2_with fail
        refine (CS.out _ (HL.out.drewN _)).mono ?_
        rintro e w' ⟨rfl, n2, rfl⟩
        go_wp2_with fail
        go_roundg l.ds
        case measure => omega
        case rel => exact ⟨l, c, n + n2, rfl, rfl, Lib.hid rfl, rfl, HL, HX, hlt, by omega⟩
      · by_cases hlt2 : c < l.sz + u
        · have HX := Lib.hid (show y = t.kth k by have := hx.out; simpa [T.kth, hlt, hlt2] using this)
          clear hx
          go_wp2_with fail
          refine (CS.out _ (HL.out.drewN _)).mono ?_
          rintro e w' ⟨rfl, n2, rfl⟩
          go_wp2_with fail
          go_ret2
          exact ⟨by rw [← HX.out]; rfl, n + n2, rfl⟩
        · have HX := Lib.hid (show r.kth (c - (l.sz + u)) = t.kth k by have := hx.out; simpa [T.kth, hlt, hlt2] using this)
          clear hx
          go_wp2_with fail
          refine (CS.out _ (HL.out.drewN _)).mono ?_
          rintro e w' ⟨rfl, n2, rfl⟩
          go_wp2_with fail
          go_roundg r.ds
          case measure => omega
          case rel => exact ⟨r, c - (l.sz + u), n + n2, rfl, by rw [show ((c - (l.sz + u) : Nat) : Int) = (c : Int) - ((l.sz : Int) + (u : Int)) by omega], Lib.hid rfl, rfl, HR, HX, by omega, by omega⟩

set_option maxRecDepth 100000 in
set_option maxHeartbeats 2000000 in
theorem Kth_out (B : Nat) (t : T) (k : Int) (w : World) (h : HeadAt w B t) (ht : t.At w) (hk : k < 0 ∨ (t.sz : Int) ≤ k) : Calls Try.prog 132 #[.pointer (some ⟨B, 0, none⟩), .int .i64 k] w fun e w' => e = .returned (.tuple #[.int .i64 0, .bool false]) ∧ ∃ n, w' = w.drewN n := by
  have CV := Lib.hid (tree_any B t w h)
  have CZ := Lib.hid (Size_any B t w h ht)
  clear h ht
  by_cases hk0 : k < 0
  · go_enter Try.func132, Try.ntmps132
    go_wp2_with fail
    refine CV.out.mono ?_
    rintro e w' ⟨rfl, rfl⟩
    go_wp2_with fail
    go_ret2
    exact ⟨rfl, 0, rfl⟩
  · have q1 : decide (k < 0) = false := by simp; omega
    have q2 : (t.sz : Int) ≤ k := by omega
    clear hk
    go_enter Try.func132, Try.ntmps132
    go_wp2_with fail
    refine CV.out.mono ?_
    rintro e w' ⟨rfl, rfl⟩
    go_wp2_with fail
    refine CZ.out.mono ?_
    rintro e w' ⟨rfl, n0, rfl⟩
    go_wp2_with fail
    go_ret2
    exact ⟨rfl, n0, rfl⟩

/-- What Kth returns. -/
def kthV (t : T) (k : Int) : Int := if 0 ≤ k ∧ k < t.sz then t.kth k.toNat else 0
def kthB (t : T) (k : Int) : Bool := decide (0 ≤ k ∧ k < t.sz)
theorem Kth_any (B : Nat) (t : T) (k : Int) (w : World) (h : HeadAt w B t) (ht : t.At w) (hs : t.sz ≤ 2 ^ 60) : Calls Try.prog 132 #[.pointer (some ⟨B, 0, none⟩), .int .i64 k] w fun e w' => e = .returned (.tuple #[.int .i64 (kthV t k), .bool (kthB t k)]) ∧ ∃ n, w' = w.drewN n := by
  unfold kthV kthB
  by_cases hk : 0 ≤ k ∧ k < t.sz
  · rw [if_pos hk, decide_eq_true hk]
    obtain ⟨m, rfl⟩ : ∃ m : Nat, k = m := ⟨k.toNat, by omega⟩
    exact Kth_in B t m w h ht hs (by omega)
  · rw [if_neg hk, decide_eq_false hk]
    exact Kth_out B t k w h ht (by omega)

set_option maxRecDepth 100000 in
theorem Max_any (B : Nat) (t : T) (w : World) (h : HeadAt w B t) (ht : t.At w) (hs : t.sz ≤ 2 ^ 60) : Calls Try.prog 76 #[.pointer (some ⟨B, 0, none⟩)] w fun e w' => e = .returned (.tuple #[.int .i64 (kthV t ((t.sz : Int) - 1)), .bool (kthB t ((t.sz : Int) - 1))]) ∧ ∃ n, w' = w.drewN n := by
  have CZ := Lib.hid (Size_any B t w h ht)
  have CV := Lib.hid (fun n => Kth_any B t ((t.sz : Int) - 1) (w.drewN n) h (ht.drewN n) hs)
  have w1 : IntKind.i64.wrap ((t.sz : Int) - 1) = (t.sz : Int) - 1 := IntWalk.i64_in _ (by omega)
  clear h ht
  go_enter Try.func76, Try.ntmps76
  go_wp2_with fail
  refine CZ.out.mono ?_
  rintro e w' ⟨rfl, n0, rfl⟩
  go_wp2_with fail
  refine (CV.out n0).mono ?_
  rintro e w' ⟨rfl, n, rfl⟩
  go_wp2_with fail
  go_ret2
  exact ⟨rfl, n0 + n, rfl⟩
end Go.Proofs.Ytbafacdknaopjaa
