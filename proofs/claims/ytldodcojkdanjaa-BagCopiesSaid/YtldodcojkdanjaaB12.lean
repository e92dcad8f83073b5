/-
  The contract of Copy; two bags side by side.
-/
import Derived.Test.YtldodcojkdanjaaB9
import Derived.Test.YtldodcojkdanjaaA16
namespace Go.Proofs.Ytldodcojkdanjaa
open Go.RowKit
set_option linter.unusedSimpArgs false

set_option maxRecDepth 100000 in
set_option maxHeartbeats 2000000 in
theorem Copy_any (B : Nat) (t : T) (w : World) (h : Bag w B t) : Calls Try.prog 27 #[.pointer (some ⟨B, 0, none⟩)] w fun e w' => ∃ C t', e = .returned (.pointer (some ⟨C, 0, none⟩)) ∧ Bag w' C t' ∧ t'.items = t.items ∧ (∀ k, k ∈ C :: t'.blocks → w.heap.size ≤ k) ∧ Only [] w w' := by
  have c1 := h.head.c1
  have HB := Lib.hid h
  have CV := Lib.hid (valid_any B t w h.head)
  clear h
  go_enter Try.func27, Try.ntmps27
  go_wp2_with fail
  refine CV.out.mono ?_
  rintro e w' ⟨rfl, rfl⟩
  go_wp2_with fail
  refine (New_any w).mono ?_
  rintro e w1 ⟨rfl, hb1, hO1⟩
  have HB1 := Lib.hid (HB.out.only hO1 (fun _ _ h => by simp at h))
  have d1 := HB1.out.head.c1
  have HN := Lib.hid hb1
  have HO1 := Lib.hid hO1
  have hsz : w.heap.size < w1.heap.size := heap_lt hb1.head
  clear hb1 hO1 c1
  go_wp2_with fail
  refine (copy_any t w1 HB1.out.tree).mono ?_
  rintro e w2 ⟨t', rfl, hA, hL, hN, hB, hO⟩
  have hh : w2.heap[w.heap.size]? = _ := (hO.block _ hsz (by simp)).trans HN.out.head
  have z1 := frozen_of_heap (i := 1) hh
  have y1 := cell_of_heap (i := 1) hh rfl
  have hC : w.heap.size ∉ t'.blocks := fun hm => by have := hB _ hm; omega
  have HF := Lib.hid (show Bag (w2.setCell ⟨w.heap.size, 1, none⟩ t'.ptr) w.heap.size t' from
    ⟨heap_setCell_same w2 w.heap.size 1 _ 49 _ hh, hA.set _ hC, List.nodup_cons.2 ⟨hC, hN⟩, by rw [hL.all.1]; exact HB.out.so, by rw [hL.all.1]; exact HB.out.po, by rw [hL.all.2.1]; exact HB.out.sz⟩)
  have HI := Lib.hid hL.all.1
  have HG := Lib.hid hB
  have HO2 := Lib.hid ((HO1.out.trans hO).to (((Only.refl [w.heap.size] w2).setCell (g := w.heap.size) (i := 1) (by simp) t'.ptr)) (fun i hi hlt => by simp at hi; omega))
  clear hA hL hN hB hO hh
  go_wp2_with fail
  go_ret
  refine ⟨_, t', rfl, HF.out, HI.out, fun k hk => ?_, HO2.out⟩
  rcases List.mem_cons.1 hk with rfl | hk
  · exact Nat.le_refl _
  · have := HG.out k hk; omega

/-- Two bags with no block in common. -/
def Apart (B : Nat) (t : T) (C : Nat) (u : T) : Prop := ∀ k, k ∈ B :: t.blocks → k ∉ C :: u.blocks
theorem Apart.symm {B C : Nat} {t u : T} (h : Apart B t C u) : Apart C u B t := fun k hk hm => h k hm hk
/-- What is done to one bag does not touch another one. -/
theorem Apart.step {W W' : World} {B C : Nat} {t t' u : T} {L : Items} (h : Apart B t C u) (hB : Bag W B t) (hC : Bag W C u) (hb : Became W W' B t t' L) : Apart B t' C u ∧ Bag W' C u := by
  refine ⟨fun k hk hm => ?_, hC.only hb.only fun k hk hm => h k hm hk⟩
  rcases List.mem_cons.1 hk with rfl | hk
  · exact h _ List.mem_cons_self hm
  · rcases hb.fresh k hk with hk | hk
    · exact h _ (List.mem_cons_of_mem _ hk) hm
    · have := hC.lt k hm; omega

theorem Remove1 (B : Nat) (t : T) (x : Int) (w : World) (h : Bag w B t) :
    Calls Try.prog 26 #[.pointer (some ⟨B, 0, none⟩), .int .i64 x, .int .i64 1] w fun e w' => ∃ r t' L, e = .returned (.int .i64 r) ∧ Became w w' B t t' L := by
  by_cases hk : 1 ≤ lcnt x t.items
  · refine (Remove_ok B t x 1 w h hk).mono ?_
    rintro e w' ⟨rfl, t', hb⟩
    exact ⟨_, t', _, rfl, hb⟩
  · refine (Remove_none B t x 1 w h (by omega) (by omega)).mono ?_
    rintro e w' ⟨rfl, hO⟩
    exact ⟨_, t, t.items, rfl, ⟨h.only hO (fun _ _ hm => by simp at hm), rfl, fun b hb => .inl hb, hO.mono fun k hk => by simp at hk⟩⟩
end Go.Proofs.Ytldodcojkdanjaa
