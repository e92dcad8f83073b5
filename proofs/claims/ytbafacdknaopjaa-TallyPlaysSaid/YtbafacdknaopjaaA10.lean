/-
  The contracts of a bag's functions that read.
-/
import Derived.Test.YtbafacdknaopjaaA9
import Derived.Deep.LoopGhost
import Derived.LaidEqlPtr
namespace Go.Proofs.Ytbafacdknaopjaa
open Go.RowKit
set_option linter.unusedSimpArgs false

theorem bag_info : Try.prog.info? 190 = some ((Try.prog.info? 190).getD default) := by kernel_rfl
/-- The head of a bag lies in a block. -/
def HeadAt (W : World) (B : Nat) (t : T) : Prop := W.heap[B]? = some (.cells #[.pointer (some ⟨B, 0, none⟩), t.ptr] 190 (0, 0))
theorem HeadAt.c0 {W : World} {B : Nat} {t : T} (h : HeadAt W B t) : W.cell? ⟨B, 0, none⟩ = some (.pointer (some ⟨B, 0, none⟩)) := cell_of_heap h rfl
theorem HeadAt.c1 {W : World} {B : Nat} {t : T} (h : HeadAt W B t) : W.cell? ⟨B, 1, none⟩ = some t.ptr := cell_of_heap h rfl
theorem HeadAt.fz {W : World} {B : Nat} {t : T} (h : HeadAt W B t) (i : Nat) : W.frozen? ⟨B, i, none⟩ = false := frozen_of_heap h

set_option maxRecDepth 100000 in
theorem valid_any (B : Nat) (t : T) (w : World) (h : HeadAt w B t) : Calls Try.prog 128 #[.pointer (some ⟨B, 0, none⟩)] w fun e w' => e = .returned (.bool true) ∧ w = w' := by
  have c0 := h.c0
  clear h
  go_enter Try.func128, Try.ntmps128
  have he := fun W => run_eql_ptr_same (P := Try.prog) (w := W) (tp := 63) (te := 190) ⟨B, 0, none⟩ Try.underlying63 bag_info
  go_wp2
  go_ret
  exact ⟨rfl, rfl⟩

set_option maxRecDepth 100000 in
theorem tree_any (B : Nat) (t : T) (w : World) (h : HeadAt w B t) : Calls Try.prog 162 #[.pointer (some ⟨B, 0, none⟩)] w fun e w' => e = .returned t.ptr ∧ w = w' := by
  have c1 := h.c1
  have CV := Lib.hid (valid_any B t w h)
  clear h
  go_enter Try.func162, Try.ntmps162
  go_wp2_with fail
  refine CV.out.mono ?_
  rintro e w' ⟨rfl, rfl⟩
  go_wp2_with fail
  go_ret
  exact ⟨rfl, rfl⟩

set_option maxRecDepth 100000 in
theorem Size_any (B : Nat) (t : T) (w : World) (h : HeadAt w B t) (ht : t.At w) : Calls Try.prog 133 #[.pointer (some ⟨B, 0, none⟩)] w fun e w' => e = .returned (.int .i64 t.sz) ∧ ∃ n, w' = w.drewN n := by
  have CV := Lib.hid (tree_any B t w h)
  have CS := Lib.hid (sizes_any t w ht)
  clear h ht
  go_enter Try.func133, Try.ntmps133
  go_wp2_with fail
  refine CV.out.mono ?_
  rintro e w' ⟨rfl, rfl⟩
  go_wp2_with fail
  refine CS.out.mono ?_
  rintro e w' ⟨rfl, n, rfl⟩
  go_wp2_with fail
  go_ret
  exact ⟨rfl, n, rfl⟩

set_option maxRecDepth 100000 in
set_option maxHeartbeats 2000000 in
theorem Count_any (B : Nat) (t : T) (x : Int) (w : World) (h : HeadAt w B t) (ht : t.At w) : Calls Try.prog 134 #[.pointer (some ⟨B, 0, none⟩), .int .i64 x] w fun e w' => e = .returned (.int .i64 (t.cnt x)) ∧ w = w' := by
  have CV := Lib.hid (tree_any B t w h)
  have HT := Lib.hid ht
  clear h ht
  go_enter Try.func134, Try.ntmps134
  go_wp2_with fail
  refine CV.out.mono ?_
  rintro e w' ⟨rfl, rfl⟩
  go_wp2_with fail
  go_loopg [5] t.ds (fun k v wr => ∃ s : T, v = s.ptr ∧ Hid (s.ds = k) ∧ wr = w ∧ Hid (s.At w) ∧ Hid (s.cnt x = t.cnt x))
  case atStart => exact ⟨t, rfl, Lib.hid rfl, rfl, HT, Lib.hid rfl⟩
  case round =>
    obtain ⟨s, hv, hk, rfl, hs, hx⟩ := hrel
    cases s with
    | leaf =>
      replace hv : _ = Value.pointer none := hv
      subst hv
      go_wp2_with fail
      go_ret
      exact ⟨by rw [← hx.out]; rfl, rfl⟩
    | node g l y u r =>
      obtain ⟨h1, h2, h3⟩ := id hs.out
      have c0 := cell_of_heap (i := 0) h1 rfl
      have c1 := cell_of_heap (i := 1) h1 rfl
      have c2 := cell_of_heap (i := 2) h1 rfl
      have c3 := cell_of_heap (i := 3) h1 rfl
      have HL := Lib.hid h2
      have HR := Lib.hid h3
      have hk2 := hk.out
      simp only [T.ds] at hk2
      clear h1 h2 h3 hs hk
      replace c0 : wr.cell? ⟨g, 0, none⟩ = some l.ptr := c0
      replace c1 : wr.cell? ⟨g, 1, none⟩ = some r.ptr := c1
      replace c2 : wr.cell? ⟨g, 2, none⟩ = some (.int .i64 y) := c2
      replace c3 : wr.cell? ⟨g, 3, none⟩ = some (.int .i64 u) := c3
      replace hv : _ = Value.pointer (some ⟨g, 0, none⟩) := hv
      subst hv
      by_cases hxy : y = x
      · subst hxy
        have q : (y != y) = false := by simp
        have HX := hx
        clear hx
        go_wp2_with fail
        go_ret
        exact ⟨by rw [← HX.out]; simp [T.cnt], rfl⟩
      · have q : (y != x) = true := by simpa using hxy
        by_cases hlt : x < y
        · have HX := Lib.hid (show l.cnt x = t.cnt x by have := hx.out; simpa [T.cnt, hlt] using this)
          clear hx
          go_wp2_with fail
          go_roundg l.ds
          case measure => omega
          case rel => exact ⟨l, rfl, Lib.hid rfl, rfl, HL, HX⟩
        · have HX := Lib.hid (show r.cnt x = t.cnt x by have := hx.out; simpa [T.cnt, hlt, show y < x by omega] using this)
          clear hx
          go_wp2_with fail
          go_roundg r.ds
          case measure => omega
          case rel => exact ⟨r, rfl, Lib.hid rfl, rfl, HR, HX⟩
end Go.Proofs.Ytbafacdknaopjaa
