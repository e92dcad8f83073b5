/-
  The contract of Copy of a tally.
-/
import Derived.Test.YtbafacdknaopjaaD13
import Derived.Test.YtbafacdknaopjaaA16
namespace Go.Proofs.Ytbafacdknaopjaa
open Go.RowKit
set_option linter.unusedSimpArgs false
set_option linter.unusedSectionVars false

set_option maxRecDepth 100000 in
set_option maxHeartbeats 2000000 in
theorem BCopy (B : Nat) (t : T) (w : World) (h : Bag w B t) : Calls Try.prog 92 #[.pointer (some ⟨B, 0, none⟩)] w fun e w' => ∃ C t', e = .returned (.pointer (some ⟨C, 0, none⟩)) ∧ Bag w' C t' ∧ t'.items = t.items ∧ (∀ k, k ∈ C :: t'.blocks → w.heap.size ≤ k) ∧ Only [] w w' := by
  have c1 := h.head.c1
  have HB := Lib.hid h
  have CV := Lib.hid (valid_any B t w h.head)
  clear h
  go_enter Try.func92, Try.ntmps92
  go_wp2_with fail
  refine CV.out.mono ?_
  rintro e w' ⟨rfl, rfl⟩
  go_wp2_with fail
  refine (New_any w).mono ?_
  rintro e w1 ⟨rfl, hb1, hO1⟩
  have HB1 := Lib.hid (HB.out.only hO1 (fun _ _ h => by simp at h))
  have d1 := HB1.out.head.c1
  have HN := Lib.hid hb1
  have HO1 := Lib.hid hO1
  have hsz : w.heap.size < w1.heap.size := heap_lt hb1.head
  clear hb1 hO1 c1
  go_wp2_with fail
  refine (copy_any t w1 HB1.out.tree).mono ?_
  rintro e w2 ⟨t', rfl, hA, hL, hN, hB, hO⟩
  have hh : w2.heap[w.heap.size]? = _ := (hO.block _ hsz (by simp)).trans HN.out.head
  have z1 := frozen_of_heap (i := 1) hh
  have y1 := cell_of_heap (i := 1) hh rfl
  have hC : w.heap.size ∉ t'.blocks := fun hm => by have := hB _ hm; omega
  have HF := Lib.hid (show Bag (w2.setCell ⟨w.heap.size, 1, none⟩ t'.ptr) w.heap.size t' from
    ⟨heap_setCell_same w2 w.heap.size 1 _ 190 _ hh, hA.set _ hC, List.nodup_cons.2 ⟨hC, hN⟩, by rw [hL.all.1]; exact HB.out.so, by rw [hL.all.1]; exact HB.out.po, by rw [hL.all.2.1]; exact HB.out.sz⟩)
  have HI := Lib.hid hL.all.1
  have HG := Lib.hid hB
  have HO2 := Lib.hid ((HO1.out.trans hO).to (((Only.refl [w.heap.size] w2).setCell (g := w.heap.size) (i := 1) (by simp) t'.ptr)) (fun i hi hlt => by simp at hi; omega))
  clear hA hL hN hB hO hh
  go_wp2_with fail
  go_ret
  refine ⟨_, t', rfl, HF.out, HI.out, fun k hk => ?_, HO2.out⟩
  rcases List.mem_cons.1 hk with rfl | hk
  · exact Nat.le_refl _
  · have := HG.out k hk; omega

/-- What is held while a tally is copied. -/
def TCopyS (w : World) (A S G B n cg : Nat) (W : World) : Prop := W.cell? ⟨A, 1, none⟩ = some (.pointer (some ⟨S, 0, none⟩)) ∧ W.cell? ⟨A, 2, none⟩ = some (.slice (some ⟨G, 0, none⟩) n cg) ∧ W.cell? ⟨A, 3, none⟩ = some (.pointer (some ⟨B, 0, none⟩)) ∧ Only [] w W
theorem TCopyS.step {w W W' : World} {A S G B n cg : Nat} (h : TCopyS w A S G B n cg W) (o : Only [] W W') : TCopyS w A S G B n cg W' :=
  ⟨cells_keep o h.1 (by simp), cells_keep o h.2.1 (by simp), cells_keep o h.2.2.1 (by simp), h.2.2.2.trans o⟩
theorem Tal.copied {w w4 : World} {A G S B : Nat} {Fd : List Nat} {t : T} {f : Nat → Nat} {cg n : Nat} {lab wt : Nat → Nat} (h : Tal w A G S B Fd t f cg n lab wt) {A' G' S' B' : Nat} {Fd' : List Nat} {t' : T} {cg' : Nat}
    (hA : w4.heap[A']? = some (.cells #[.pointer (some ⟨A', 0, none⟩), .pointer (some ⟨S', 0, none⟩), .slice (some ⟨G', 0, none⟩) n cg', .pointer (some ⟨B', 0, none⟩)] 65 (0, 0))) (hG : Row64 w4 G' n f) (hS : DsuAt w4 Fd' S' n lab) (hB : Bag w4 B' t') (ht : t'.items = t.items)
    (hn : (A' :: G' :: (Fd' ++ B' :: t'.blocks)).Nodup) : Tal w4 A' G' S' B' Fd' t' f cg' n lab wt := ⟨hA, hG, hS, hB, hn, h.val, by rw [ht]; exact h.items, h.low⟩
theorem DsuAt.nodup {W : World} {F : List Nat} {S n : Nat} {lab : Nat → Nat} (h : DsuAt W F S n lab) : F.Nodup := by
  obtain ⟨U, L, Z, up, rt, d, least, size, cu, cl, cz, rfl, h⟩ := h
  obtain ⟨a, b, c⟩ := h.suz
  have := h.ul
  have := h.uz
  have := h.lz
  simp [*]

set_option maxRecDepth 100000 in
set_option maxHeartbeats 2000000 in
theorem TCopy {w : World} {F : List Nat} {A n : Nat} {lab wt : Nat → Nat} (h : TalAt w F A n lab wt) : Calls Try.prog 41 #[.pointer (some ⟨A, 0, none⟩)] w fun e w' =>
    ∃ F' A', e = .returned (.pointer (some ⟨A', 0, none⟩)) ∧ TalAt w' F' A' n lab wt ∧ (∀ k, k ∈ F' → w.heap.size ≤ k) ∧ Only [] w w' := by
  obtain ⟨G, S, B, Fd, t, f, cg, rfl, h⟩ := h
  have CV := Lib.hid (tvalid_any h)
  obtain ⟨s1, s2, s3⟩ := h.c
  have HT := Lib.hid h
  have hb := h.sets.bound
  have C1 := Lib.hid (fun W1 (hS : TCopyS w A S G B n cg W1) => (DCopy (h.sets.only hS.2.2.2 (by simp))).mono (R' := fun e w' => (∃ S', e = .returned (.pointer (some ⟨S', 0, none⟩)) ∧ Hid (∃ F', DsuAt w' F' S' n lab ∧ (∀ k, k ∈ F' → W1.heap.size ≤ k) ∧ Only [] W1 w')) ∧ TCopyS w A S G B n cg w') fun e w' ⟨F', S', he, h1, h2, h3⟩ => ⟨⟨S', he, Lib.hid ⟨F', h1, h2, h3⟩⟩, hS.step h3⟩)
  have C2 := Lib.hid (fun W1 (hS : TCopyS w A S G B n cg W1) => (Clone_int64 G n cg f W1 (h.row.only hS.2.2.2 (by simp)) hb).mono (R' := fun e w' => (∃ g' c', e = .returned (.slice (some ⟨g', 0, none⟩) n c') ∧ Hid (Row64 w' g' n f ∧ W1.heap.size ≤ g' ∧ Only [] W1 w')) ∧ TCopyS w A S G B n cg w') fun e w' ⟨g', c', he, h1, h2, h3⟩ => ⟨⟨g', c', he, Lib.hid ⟨h1, h2, h3⟩⟩, hS.step h3⟩)
  have C3 := Lib.hid (fun W1 (hS : TCopyS w A S G B n cg W1) => (BCopy B t W1 (h.bag.only hS.2.2.2 (by simp))).mono (R' := fun e w' => (∃ C, e = .returned (.pointer (some ⟨C, 0, none⟩)) ∧ Hid (∃ t', Bag w' C t' ∧ t'.items = t.items ∧ (∀ k, k ∈ C :: t'.blocks → W1.heap.size ≤ k) ∧ Only [] W1 w')) ∧ TCopyS w A S G B n cg w') fun e w' ⟨C, t', he, h1, h2, h3, h4⟩ => ⟨⟨C, he, Lib.hid ⟨t', h1, h2, h3, h4⟩⟩, hS.step h4⟩)
  have hO := Only.refl [] w
  clear h
  go_enter Try.func41, Try.ntmps41
  go_wp2_with fail
  refine CV.out.mono ?_
  rintro e w' ⟨rfl, rfl⟩
  go_wp2_with fail
  go_region_held3 (fun w' => w'.cell? ⟨A, 1, none⟩ = some (.pointer (some ⟨S, 0, none⟩)) ∧ w'.cell? ⟨A, 2, none⟩ = some (.slice (some ⟨G, 0, none⟩) n cg) ∧ w'.cell? ⟨A, 3, none⟩ = some (.pointer (some ⟨B, 0, none⟩)) ∧ Only [] w w') (first | exact ⟨s1, s2, s3, hO⟩ | exact ⟨s1, s2, s3, hO.drewN 1⟩ | exact TCopyS.step hS3 ((Only.refl [] w3).alloc _) | assumption)
    (first
      | (go_at_call 90; refine (C1.out _ (by assumption)).mono ?_; rintro e w1 ⟨⟨S', rfl, R1⟩, hS1⟩)
      | (go_at_call 91; refine (C2.out _ (by assumption)).mono ?_; rintro e w2 ⟨⟨G', cg', rfl, R2⟩, hS2⟩)
      | (go_at_call 92; refine (C3.out _ (by assumption)).mono ?_; rintro e w3 ⟨⟨B', rfl, R3⟩, hS3⟩))
  have hS9 := Lib.hid hS3
  clear hS1 hS2 hS3 C1 C2 C3 CV
  go_wp2_with fail
  go_ret
  obtain ⟨F', r1, b1, o1⟩ := R1.out
  obtain ⟨r2, b2, o2⟩ := R2.out
  obtain ⟨t', r3, i3, b3, o3⟩ := R3.out
  have z1 := o1.size
  have z2 := o2.size
  have z3 := o3.size
  have z0 : w.heap.size ≤ w.drew.heap.size := Nat.le_refl _
  have ho : Only [] w3 (w3.alloc (.cells #[.pointer (some ⟨w3.heap.size, 0, none⟩), .pointer (some ⟨S', 0, none⟩), .slice (some ⟨G', 0, none⟩) n cg', .pointer (some ⟨B', 0, none⟩)] 65)) := (Only.refl [] w3).alloc _
  have e1 := ((r1.only o2 (by simp)).only o3 (by simp)).only ho (by simp)
  have e2 := (r2.only o3 (by simp)).only ho (by simp)
  have e3 := r3.only ho (by simp)
  have l1 := r1.lt
  have l2 := r2.lt
  have l3 := r3.lt
  refine ⟨_, w3.heap.size, rfl, ⟨G', S', B', F', t', f, cg', rfl, HT.out.copied (heap_alloc_new _ _) e2 e1 e3 i3 ?_⟩, fun k hk => ?_, hS9.out.2.2.2.trans ho⟩
  · refine List.nodup_cons.2 ⟨fun m => ?_, List.nodup_cons.2 ⟨fun m => ?_, List.nodup_append.2 ⟨r1.nodup, r3.nd, fun a ha b hb e => ?_⟩⟩⟩
    · rcases List.mem_cons.1 m with e | m
      · omega
      · rcases List.mem_append.1 m with m | m
        · have := l1 _ m; omega
        · have := l3 _ m; omega
    · rcases List.mem_append.1 m with m | m
      · have := l1 _ m; omega
      · have := b3 _ m; omega
    · subst e
      have := l1 _ ha
      have := b3 _ hb
      omega
  · rcases List.mem_cons.1 hk with rfl | hk
    · omega
    · rcases List.mem_cons.1 hk with rfl | hk
      · omega
      · rcases List.mem_append.1 hk with hk | hk
        · have := b1 _ hk; omega
        · have := b3 _ hk; omega
end Go.Proofs.Ytbafacdknaopjaa
