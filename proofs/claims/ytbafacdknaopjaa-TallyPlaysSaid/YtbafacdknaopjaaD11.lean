/-
  Union of a tally.
-/
import Derived.Test.YtbafacdknaopjaaD10
import Derived.StillTailTactics
namespace Go.Proofs.Ytbafacdknaopjaa
open Go.RowKit
set_option linter.unusedSimpArgs false
set_option linter.unusedSectionVars false

theorem cells_keep {W W' : World} {gs : List Nat} (ho : Only gs W W') {a : Addr} {v : Value} (hc : W.cell? a = some v) (hn : a.block ∉ gs) : W'.cell? a = some v := by
  rw [World.cell?_of_block (w := W) (ho.block _ (cell_lt' hc) hn)]; exact hc

theorem Became.out {w w' : World} {B : Nat} {t t' : T} {L : Items} (h : Became w w' B t t' L) {k : Nat} (hk : k < w.heap.size) (hn : k ∉ B :: t.blocks) : k ∉ B :: t'.blocks := by
  intro hm
  rcases List.mem_cons.1 hm with rfl | hm
  · exact hn List.mem_cons_self
  · rcases h.fresh k hm with hm | hm
    · exact hn (List.mem_cons_of_mem _ hm)
    · omega
theorem Became.sz_le {w w' : World} {B : Nat} {t t' : T} {x : Int} {n : Nat} (h : Became w w' B t t' (lput x (lcnt x t.items - n) t.items)) (hs : Sorted t.items) : t'.sz ≤ t.sz := by
  have := lput_sz (x := x) (n := lcnt x t.items - n) hs
  rw [T.sz_items, T.sz_items, h.items]
  omega

/-- What a union leaves: the blocks of the new state are old ones or new. -/
def Grew (w : World) (F F' : List Nat) : Prop := ∀ k, k ∈ F' → k ∈ F ∨ w.heap.size ≤ k

section
variable {W : World} {A G S B : Nat} {Fd : List Nat} {t : T} {f : Nat → Nat} {cg n : Nat} {lab wt : Nat → Nat} (h : Tal W A G S B Fd t f cg n lab wt)
include h
/-- All steps of a union of different sets, behind the sets' own. -/
theorem Tal.unite {W3 W4 W5 W7 : World} {t1 t2 t3 : T} {x y : Nat} (hx : x < n) (hy : y < n) (lx : lab x = x) (ly : lab y = y) (hxy : x < y) (hd : DsuAt W3 Fd S n (mer lab x y)) (ho : Only Fd W W3)
    (b1 : Became (W3.drewN 1) W4 B t t1 (lput (f x) (lcnt (f x) t.items - 1) t.items)) (b2 : Became (W4.drewN 1) W5 B t1 t2 (lput (f y) (lcnt (f y) t1.items - 1) t1.items))
    (b3 : Became ((W5.setCell ⟨G, x, none⟩ (.int .i64 ((f x : Int) + (f y : Int)))).drew.drewN 1) W7 B t2 t3 (lput ((f x : Int) + (f y : Int)) (lcnt ((f x : Int) + (f y : Int)) t2.items + 1) t2.items)) :
    Tal W7 A G S B Fd t3 (put f x (f x + f y)) cg n (mer lab x y) wt ∧ Only (A :: G :: (Fd ++ B :: t.blocks)) W W7 ∧ Grew W (A :: G :: (Fd ++ B :: t.blocks)) (A :: G :: (Fd ++ B :: t3.blocks)) := by
  obtain ⟨pAG, pAF, pGF, pA, pG, pF⟩ := h.parts
  have hlt := h.lt
  have o1 : Only (B :: t.blocks) W3 W4 := ((Only.refl _ W3).drewN 1).trans b1.only
  have o2 : Only (B :: t1.blocks) W4 W5 := ((Only.refl _ W4).drewN 1).trans b2.only
  have o3 : Only [G] W5 ((W5.setCell ⟨G, x, none⟩ (.int .i64 ((f x : Int) + (f y : Int)))).drew) := ((Only.refl [G] W5).setCell (g := G) (by simp) _).drewN 1
  have o4 := ((Only.refl (B :: t2.blocks) ((W5.setCell ⟨G, x, none⟩ (.int .i64 ((f x : Int) + (f y : Int)))).drew)).drewN 1).trans b3.only
  have s1 : W.heap.size ≤ W3.heap.size := ho.size
  have s2 : W.heap.size ≤ W4.heap.size := Nat.le_trans s1 o1.size
  have s3 : W.heap.size ≤ W5.heap.size := Nat.le_trans s2 o2.size
  have s4 : W.heap.size ≤ ((W5.setCell ⟨G, x, none⟩ (.int .i64 ((f x : Int) + (f y : Int)))).drew).heap.size := Nat.le_trans s3 o3.size
  have f1 : ∀ k, k < W.heap.size → k ∉ B :: t.blocks → k ∉ B :: t1.blocks := fun k hk hn => b1.out (show k < W3.heap.size by omega) hn
  have f2 : ∀ k, k < W.heap.size → k ∉ B :: t.blocks → k ∉ B :: t2.blocks := fun k hk hn => b2.out (show k < W4.heap.size by omega) (f1 k hk hn)
  have f3 : ∀ k, k < W.heap.size → k ∉ B :: t.blocks → k ∉ B :: t3.blocks := fun k hk hn => b3.out (show k < ((W5.setCell ⟨G, x, none⟩ (.int .i64 ((f x : Int) + (f y : Int)))).drew).heap.size by omega) (f2 k hk hn)
  have hA : A < W.heap.size := hlt A (by simp)
  have hG : G < W.heap.size := hlt G (by simp)
  have hFd : ∀ k, k ∈ Fd → k < W.heap.size := fun k hk => hlt k (by simp [hk])
  have oT : Only (A :: G :: (Fd ++ B :: t.blocks)) W W7 := by
    refine ((((ho.mono fun k hk => by simp [hk]).to o1 fun k hk _ => ?_).to o2 fun k hk hl => ?_).to o3 fun k hk _ => ?_).to o4 fun k hk hl => ?_
    · rcases List.mem_cons.1 hk with rfl | hk <;> simp [*]
    · by_cases hm : k ∈ B :: t.blocks
      · rcases List.mem_cons.1 hm with rfl | hm <;> simp [*]
      · exact absurd hk (f1 k hl hm)
    · simp at hk; simp [hk]
    · by_cases hm : k ∈ B :: t.blocks
      · rcases List.mem_cons.1 hm with rfl | hm <;> simp [*]
      · exact absurd hk (f2 k hl hm)
  have keep : ∀ k, k < W.heap.size → k ∉ B :: t.blocks → k ≠ G → W7.heap[k]? = W3.heap[k]? := fun k hk hn hg => by
    rw [o4.block k (by omega) (f2 k hk hn), o3.block k (by omega) (by simpa using hg), o2.block k (by omega) (f1 k hk hn), o1.block k (by omega) hn]
  have grow : Grew W (A :: G :: (Fd ++ B :: t.blocks)) (A :: G :: (Fd ++ B :: t3.blocks)) := fun k hk => by
    by_cases hl : k < W.heap.size
    · refine .inl ?_
      by_cases hm : k ∈ B :: t.blocks
      · rcases List.mem_cons.1 hm with rfl | hm <;> simp [*]
      · have := f3 k hl hm
        simp only [List.mem_cons, List.mem_append] at hk this ⊢
        rcases hk with hk | hk | hk | hk
        · exact .inl hk
        · exact .inr (.inl hk)
        · exact .inr (.inr (.inl hk))
        · exact absurd hk this
    · exact .inr (by omega)
  have row : Row64 W7 G n (put f x (f x + f y)) := by
    have r5 : Row64 W5 G n f := ((h.row.only ho pGF).only o1 pG).only o2 (f1 G hG pG)
    have r6 := r5.put x (f x + f y)
    rw [Int.natCast_add] at r6
    exact (r6.same (w' := (W5.setCell ⟨G, x, none⟩ (.int .i64 ((f x : Int) + (f y : Int)))).drew) rfl).only o4 (f2 G hG pG)
  have vx := h.val x hx lx
  have vy := h.val y hy ly
  refine ⟨⟨?_, row, hd.same fun k hk => keep k (hFd k hk) (pF k hk) (fun e => pGF (e ▸ hk)), b3.bag, ?_, fun z hz lz => ?_, ?_, h.low⟩, oT, grow⟩
  · rw [keep A hA pA pAG, ho.block A hA pAF]; exact h.head
  · have hn := h.nd
    have n1 := f3 A hA pA
    have n2 := f3 G hG pG
    have n3 : ∀ k, k ∈ Fd → k ∉ B :: t3.blocks := fun k hk => f3 k (hFd k hk) (pF k hk)
    have n4 := (List.nodup_append.1 (List.nodup_cons.1 (List.nodup_cons.1 hn).2).2).1
    refine List.nodup_cons.2 ⟨fun m => ?_, List.nodup_cons.2 ⟨fun m => ?_, List.nodup_append.2 ⟨n4, b3.bag.nd, fun a ha b hb e => n3 a ha (e ▸ hb)⟩⟩⟩
    · rcases List.mem_cons.1 m with e | m
      · exact pAG e
      · rcases List.mem_append.1 m with m | m
        · exact pAF m
        · exact n1 m
    · rcases List.mem_append.1 m with m | m
      · exact pGF m
      · exact n2 m
  · have hr := mer_root lx ly hxy z
    rw [lz] at hr
    simp at hr
    by_cases e : z = x
    · subst e; rw [put_same, sumOf_mer_x lx ly hxy, vx, vy]
    · rw [put_other _ _ e, h.val z hz hr.1, sumOf_mer_z lx ly hxy e hr.2]
  · rw [b3.items]
    refine (items_union hx hy lx ly hxy h.items vx vy b1.items b2.items rfl).2.2

set_option maxRecDepth 100000 in
set_option maxHeartbeats 4000000 in
theorem tUnion_diff (a b : Nat) (ha : a < n) (hb : b < n) (hne : lab a ≠ lab b) : Calls Try.prog 32 #[.pointer (some ⟨A, 0, none⟩), .int .i64 a, .int .i64 b] W fun e w' => e = .returned (.tuple #[.bool true, .int .i64 0]) ∧
    ∃ t' f', Tal w' A G S B Fd t' f' cg n (mer lab (lab a) (lab b)) wt ∧ Only (A :: G :: (Fd ++ B :: t.blocks)) W w' ∧ Grew W (A :: G :: (Fd ++ B :: t.blocks)) (A :: G :: (Fd ++ B :: t'.blocks)) := by
  have c1 := h.c.1
  have CV := Lib.hid (tvalid_any h)
  have CA := Lib.hid ((DLeast h.sets a ha).mono (R' := fun e w' => e = .returned (.tuple #[.int .i64 (lab a), .int .i64 0]) ∧ w'.cell? ⟨A, 1, none⟩ = some (.pointer (some ⟨S, 0, none⟩)) ∧ Hid (Tal w' A G S B Fd t f cg n lab wt ∧ Only Fd W w')) fun e w' ⟨he, hd, ho⟩ =>
    have h' := h.step_sets ho hd
    ⟨he, h'.c.1, Lib.hid ⟨h', ho⟩⟩)
  have CB := Lib.hid (fun (w1 : World) (h1 : Tal w1 A G S B Fd t f cg n lab wt) => (DLeast h1.sets b hb).mono (R' := fun e w' => e = .returned (.tuple #[.int .i64 (lab b), .int .i64 0]) ∧ w'.cell? ⟨A, 1, none⟩ = some (.pointer (some ⟨S, 0, none⟩)) ∧ Hid (Tal w' A G S B Fd t f cg n lab wt ∧ Only Fd w1 w')) fun e w' ⟨he, hd, ho⟩ =>
    have h' := h1.step_sets ho hd
    ⟨he, h'.c.1, Lib.hid ⟨h', ho⟩⟩)
  have hra := h.rootlt ha
  have hrb := h.rootlt hb
  obtain ⟨x, y, hxy, hx, hy, lx, ly, hs, hm⟩ : ∃ x y, x < y ∧ x < n ∧ y < n ∧ lab x = x ∧ lab y = y ∧ ((lab a = x ∧ lab b = y) ∨ (lab a = y ∧ lab b = x)) ∧ mer lab (lab a) (lab b) = mer lab x y := by
    rcases Nat.lt_or_gt_of_ne hne with hl | hl
    · exact ⟨lab a, lab b, hl, hra.1, hrb.1, hra.2, hrb.2, .inl ⟨rfl, rfl⟩, rfl⟩
    · exact ⟨lab b, lab a, hl, hrb.1, hra.1, hrb.2, hra.2, .inr ⟨rfl, rfl⟩, mer_comm _ _ _⟩
  rw [hm]
  have HT := Lib.hid h
  have HX := Lib.hid (And.intro hx (And.intro hy (And.intro lx (And.intro ly hxy))))
  have CU := Lib.hid (fun (w2 : World) (h2 : Tal w2 A G S B Fd t f cg n lab wt) => (DUnion h2.sets x y hx hy).mono (R' := fun e w' => e = .returned (.tuple #[.bool (decide (lab x ≠ lab y)), .int .i64 0]) ∧ w'.cell? ⟨A, 2, none⟩ = some (.slice (some ⟨G, 0, none⟩) n cg) ∧ w'.cell? ⟨A, 3, none⟩ = some (.pointer (some ⟨B, 0, none⟩)) ∧ w'.cell? ⟨G, x, none⟩ = some (.int .i64 (f x)) ∧ w'.cell? ⟨G, y, none⟩ = some (.int .i64 (f y)) ∧ Hid (DsuAt w' Fd S n (mer lab x y) ∧ Only Fd w2 w' ∧ Bag w' B t ∧ Row64 w' G n f)) fun e w' ⟨he, hd, ho⟩ =>
    have p := h2.parts
    have hr := h2.row.only ho p.2.2.1
    ⟨he, cells_keep ho h2.c.2.1 p.2.1, cells_keep ho h2.c.2.2 p.2.1, hr.cell hx, hr.cell hy, Lib.hid ⟨by rw [lx, ly] at hd; exact hd, ho, h2.bag.only ho fun k m m' => p.2.2.2.2.2 k m' m, hr⟩⟩)
  obtain ⟨pAG, _, _, pA, pG, _⟩ := h.parts
  have PN := Lib.hid (And.intro pA pG)
  have fxe := h.val x hx lx
  have fye := h.val y hy ly
  obtain ⟨g1, g2, _⟩ := items_union hx hy lx ly hxy h.items fxe fye rfl rfl rfl
  have hsz : t.sz ≤ 65536 := by rw [h.sz]; exact Nat.le_trans (many_le _ _) h.sets.bound
  have hfx : f x ≤ 3037000499 := by rw [fxe]; exact Nat.le_trans (sumOf_le _ _ _ _) h.low
  have hfy : f y ≤ 3037000499 := by rw [fye]; exact Nat.le_trans (sumOf_le _ _ _ _) h.low
  have GG := Lib.hid (And.intro g1 (And.intro g2 hsz))
  clear g1 g2 hsz fxe fye h hm hne hra hrb lx ly
  have q1 : ((x : Int) == (y : Int)) = false := by simp; omega
  have q2 : ((y : Int) == (x : Int)) = false := by simp; omega
  rcases hs with ⟨ea, eb⟩ | ⟨ea, eb⟩
  all_goals
    rw [ea] at CA
    rw [eb] at CB
    clear ea eb
    go_enter Try.func32, Try.ntmps32
    go_wp2_with fail
    refine CV.out.mono ?_
    rintro e w' ⟨rfl, rfl⟩
    go_wp2_with fail
    refine CA.out.mono ?_
    rintro e w1 ⟨rfl, d1, HP1⟩
    go_wp2_with fail
    refine (CB.out w1 HP1.out.1).mono ?_
    rintro e w2 ⟨rfl, d2, HP2⟩
    go_wp2_with fail
    refine (CU.out w2 HP2.out.1).mono ?_
    rintro e w3 ⟨rfl, k2, k3, kx, ky, HP3⟩
    go_wp2_with fail
    go_still_tail 11, (by kernel_rfl)
    go_wp2_with fail
    refine (Remove_ok B t (f x) 1 (w3.drewN 1) (HP3.out.2.2.1.drewN 1) GG.out.1).mono ?_
    rintro e w4 ⟨rfl, t1, b1⟩
    have l2 := cells_keep b1.only (show (w3.drewN 1).cell? _ = _ from k2) PN.out.1
    have l3 := cells_keep b1.only (show (w3.drewN 1).cell? _ = _ from k3) PN.out.1
    have lx := cells_keep b1.only (show (w3.drewN 1).cell? _ = _ from kx) PN.out.2
    have ly := cells_keep b1.only (show (w3.drewN 1).cell? _ = _ from ky) PN.out.2
    have AL := Lib.hid (And.intro (cell_lt' k2) (cell_lt' kx))
    have HB1 := Lib.hid b1
    clear b1 k2 k3 kx ky
    go_wp2_with fail
    go_still_tail 11, (by kernel_rfl)
    go_wp2_with fail
    refine (Remove_ok B t1 (f y) 1 (w4.drewN 1) (HB1.out.bag.drewN 1) (by rw [HB1.out.items]; exact GG.out.2.1)).mono ?_
    rintro e w5 ⟨rfl, t2, b2⟩
    have PN1 := Lib.hid (And.intro (HB1.out.out (show A < (w3.drewN 1).heap.size from AL.out.1) PN.out.1) (HB1.out.out (show G < (w3.drewN 1).heap.size from AL.out.2) PN.out.2))
    have m2 := cells_keep b2.only (show (w4.drewN 1).cell? _ = _ from l2) PN1.out.1
    have m3 := cells_keep b2.only (show (w4.drewN 1).cell? _ = _ from l3) PN1.out.1
    have mx := cells_keep b2.only (show (w4.drewN 1).cell? _ = _ from lx) PN1.out.2
    have my := cells_keep b2.only (show (w4.drewN 1).cell? _ = _ from ly) PN1.out.2
    have HR := (((HP3.out.2.2.2.same (w' := w3.drewN 1) rfl).only HB1.out.only PN.out.2).same (w' := w4.drewN 1) rfl).only b2.only PN1.out.2
    have zx := HR.frozen x
    have PN2 := Lib.hid (And.intro (b2.out (show A < (w4.drewN 1).heap.size from Nat.lt_of_lt_of_le AL.out.1 HB1.out.only.size) PN1.out.1) (b2.out (show G < (w4.drewN 1).heap.size from Nat.lt_of_lt_of_le AL.out.2 HB1.out.only.size) PN1.out.2))
    have HB2 := Lib.hid b2
    clear b2 l2 l3 lx ly HR
    go_wp2_with fail
    go_region
    all_goals
      have HS := Lib.hid (show t2.sz + 1 ≤ 2147483647 by
        have e1 := HB1.out.sz_le HT.out.bag.so
        have e2 := HB2.out.sz_le HB1.out.bag.so
        have := GG.out.2.2
        omega)
      obtain ⟨w6, e6⟩ : ∃ w6, (w5.setCell ⟨G, x, none⟩ (.int .i64 ((f x : Int) + (f y : Int)))).drew = w6 := ⟨_, rfl⟩
      have n2 : w6.cell? ⟨A, 2, none⟩ = some (.slice (some ⟨G, 0, none⟩) n cg) := by rw [← e6]; exact cells_keep ((Only.refl [G] w5).setCell (g := G) (by simp) _) m2 (by simpa using pAG)
      have n3 : w6.cell? ⟨A, 3, none⟩ = some (.pointer (some ⟨B, 0, none⟩)) := by rw [← e6]; exact cells_keep ((Only.refl [G] w5).setCell (g := G) (by simp) _) m3 (by simpa using pAG)
      have nx : w6.cell? ⟨G, x, none⟩ = some (.int .i64 ((f x : Int) + (f y : Int))) := by rw [← e6]; exact World.cell?_setCell_same _ _ _ mx
      have HB6 := Lib.hid (show Bag w6 B t2 by rw [← e6]; exact ((HB2.out.bag.only ((Only.refl [G] w5).setCell (g := G) (by simp) _) fun k m m' => PN2.out.2 (by simp at m'; rw [← m']; exact m))).drewN 1)
      rw [e6]
      clear m2 m3 mx my zx
      go_wp2_with fail
      go_still_tail 11, (by kernel_rfl)
      go_wp2_with fail
      refine (Add_ok B t2 ((f x : Int) + (f y : Int)) 1 (w6.drewN 1) (HB6.out.drewN 1) HS.out).mono ?_
      rintro e w7 ⟨rfl, t3, b3⟩
      rw [← e6] at b3
      have HF := Lib.hid (Tal.unite HT.out HX.out.1 HX.out.2.1 HX.out.2.2.1 HX.out.2.2.2.1 HX.out.2.2.2.2 HP3.out.1 ((HP1.out.2.trans HP2.out.2).trans HP3.out.2.1) HB1.out HB2.out b3)
      clear b3
      go_wp2_with fail
      go_ret2
      exact ⟨rfl, _, _, HF.out⟩
end
end Go.Proofs.Ytbafacdknaopjaa
