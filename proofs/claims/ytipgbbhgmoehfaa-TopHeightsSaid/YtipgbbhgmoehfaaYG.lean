import Derived.StillTailTactics
import Derived.Laws.AppendOwn
import Derived.Lib.SliceRun
import Derived.Shelf.RegionOpenPlain
import Derived.Deep.RegionHeld3
import Derived.Test.YtipgbbhgmoehfaaYF
import Derived.Test.YtipgbbhgmoehfaaYD
/-
  Union of a tally.
-/
namespace Go.Proofs.Ytipgbbhgmoehfaa
open Go.RowKit
set_option linter.unusedSimpArgs false
set_option linter.unusedSectionVars false

theorem cells_keep {W W' : World} {gs : List Nat} (ho : Only gs W W') {a : Addr} {v : Value} (hc : W.cell? a = some v) (hn : a.block ∉ gs) : W'.cell? a = some v := by
  rw [World.cell?_of_block (w := W) (ho.block _ (cell_lt' hc) hn)]; exact hc

theorem Became.out {w w' : World} {B : Nat} {t t' : T} {L : Items} (h : Became w w' B t t' L) {k : Nat} (hk : k < w.heap.size) (hn : k ∉ B :: t.blocks) : k ∉ B :: t'.blocks := by
  intro hm
  rcases List.mem_cons.1 hm with rfl | hm
  · exact hn List.mem_cons_self
  · rcases h.fresh k hm with hm | hm
    · exact hn (List.mem_cons_of_mem _ hm)
    · omega
theorem Became.sz_le {w w' : World} {B : Nat} {t t' : T} {x : Int} {n : Nat} (h : Became w w' B t t' (lput x (lcnt x t.items - n) t.items)) (hs : Sorted t.items) : t'.sz ≤ t.sz := by
  have := lput_sz (x := x) (n := lcnt x t.items - n) hs
  rw [T.sz_items, T.sz_items, h.items]
  omega

/-- What a union leaves: the blocks of the new state are old ones or new. -/
def Grew (w : World) (F F' : List Nat) : Prop := ∀ k, k ∈ F' → k ∈ F ∨ w.heap.size ≤ k

section
variable {W : World} {A G S B : Nat} {Fd : List Nat} {t : T} {f : Nat → Nat} {cg n : Nat} {lab wt : Nat → Nat} (h : Tal W A G S B Fd t f cg n lab wt)
include h
/-- All steps of a union of different sets, behind the sets' own. -/
theorem Tal.unite {W3 W4 W5 W7 : World} {t1 t2 t3 : T} {x y : Nat} (hx : x < n) (hy : y < n) (lx : lab x = x) (ly : lab y = y) (hxy : x < y) (hd : DsuAt W3 Fd S n (mer lab x y)) (ho : Only Fd W W3)
    (b1 : Became (W3.drewN 1) W4 B t t1 (lput (f x) (lcnt (f x) t.items - 1) t.items)) (b2 : Became (W4.drewN 1) W5 B t1 t2 (lput (f y) (lcnt (f y) t1.items - 1) t1.items))
    (b3 : Became ((W5.setCell ⟨G, x, none⟩ (.int .i64 ((f x : Int) + (f y : Int)))).drew.drewN 1) W7 B t2 t3 (lput ((f x : Int) + (f y : Int)) (lcnt ((f x : Int) + (f y : Int)) t2.items + 1) t2.items)) :
    Tal W7 A G S B Fd t3 (put f x (f x + f y)) cg n (mer lab x y) wt ∧ Only (A :: G :: (Fd ++ B :: t.blocks)) W W7 ∧ Grew W (A :: G :: (Fd ++ B :: t.blocks)) (A :: G :: (Fd ++ B :: t3.blocks)) := by
  obtain ⟨pAG, pAF, pGF, pA, pG, pF⟩ := h.parts
  have hlt := h.lt
  have o1 : Only (B :: t.blocks) W3 W4 := ((Only.refl _ W3).drewN 1).trans b1.only
  have o2 : Only (B :: t1.blocks) W4 W5 := ((Only.refl _ W4).drewN 1).trans b2.only
  have o3 : Only [G] W5 ((W5.setCell ⟨G, x, none⟩ (.int .i64 ((f x : Int) + (f y : Int)))).drew) := ((Only.refl [G] W5).setCell (g := G) (by simp) _).drewN 1
  have o4 := ((Only.refl (B :: t2.blocks) ((W5.setCell ⟨G, x, none⟩ (.int .i64 ((f x : Int) + (f y : Int)))).drew)).drewN 1).trans b3.only
  have s1 : W.heap.size ≤ W3.heap.size := ho.size
  have s2 : W.heap.size ≤ W4.heap.size := Nat.le_trans s1 o1.size
  have s3 : W.heap.size ≤ W5.heap.size := Nat.le_trans s2 o2.size
  have s4 : W.heap.size ≤ ((W5.setCell ⟨G, x, none⟩ (.int .i64 ((f x : Int) + (f y : Int)))).drew).heap.size := Nat.le_trans s3 o3.size
  have f1 : ∀ k, k < W.heap.size → k ∉ B :: t.blocks → k ∉ B :: t1.blocks := fun k hk hn => b1.out (show k < W3.heap.size by omega) hn
  have f2 : ∀ k, k < W.heap.size → k ∉ B :: t.blocks → k ∉ B :: t2.blocks := fun k hk hn => b2.out (show k < W4.heap.size by omega) (f1 k hk hn)
  have f3 : ∀ k, k < W.heap.size → k ∉ B :: t.blocks → k ∉ B :: t3.blocks := fun k hk hn => b3.out (show k < ((W5.setCell ⟨G, x, none⟩ (.int .i64 ((f x : Int) + (f y : Int)))).drew).heap.size by omega) (f2 k hk hn)
  have hA : A < W.heap.size := hlt A (by simp)
  have hG : G < W.heap.size := hlt G (by simp)
  have hFd : ∀ k, k ∈ Fd → k < W.heap.size := fun k hk => hlt k (by simp [hk])
  have oT : Only (A :: G :: (Fd ++ B :: t.blocks)) W W7 := by
    refine ((((ho.mono fun k hk => by simp [hk]).to o1 fun k hk _ => ?_).to o2 fun k hk hl => ?_).to o3 fun k hk _ => ?_).to o4 fun k hk hl => ?_
    · rcases List.mem_cons.1 hk with rfl | hk <;> simp [*]
    · by_cases hm : k ∈ B :: t.blocks
      · rcases List.mem_cons.1 hm with rfl | hm <;> simp [*]
      · exact absurd hk (f1 k hl hm)
    · simp at hk; simp [hk]
    · by_cases hm : k ∈ B :: t.blocks
      · rcases List.mem_cons.1 hm with rfl | hm <;> simp [*]
      · exact absurd hk (f2 k hl hm)
  have keep : ∀ k, k < W.heap.size → k ∉ B :: t.blocks → k ≠ G → W7.heap[k]? = W3.heap[k]? := fun k hk hn hg => by
    rw [o4.block k (by omega) (f2 k hk hn), o3.block k (by omega) (by simpa using hg), o2.block k (by omega) (f1 k hk hn), o1.block k (by omega) hn]
  have grow : Grew W (A :: G :: (Fd ++ B :: t.blocks)) (A :: G :: (Fd ++ B :: t3.blocks)) := fun k hk => by
    by_cases hl : k < W.heap.size
    · refine .inl ?_
      by_cases hm : k ∈ B :: t.blocks
      · rcases List.mem_cons.1 hm with rfl | hm <;> simp [*]
      · have := f3 k hl hm
        simp only [List.mem_cons, List.mem_append] at hk this ⊢
        rcases hk with hk | hk | hk | hk
        · exact .inl hk
        · exact .inr (.inl hk)
        · exact .inr (.inr (.inl hk))
        · exact absurd hk this
    · exact .inr (by omega)
  have row : Row64 W7 G n (put f x (f x + f y)) := by
    have r5 : Row64 W5 G n f := ((h.row.only ho pGF).only o1 pG).only o2 (f1 G hG pG)
    have r6 := r5.put x (f x + f y)
    rw [Int.natCast_add] at r6
    exact (r6.same (w' := (W5.setCell ⟨G, x, none⟩ (.int .i64 ((f x : Int) + (f y : Int)))).drew) rfl).only o4 (f2 G hG pG)
  have vx := h.val x hx lx
  have vy := h.val y hy ly
  refine ⟨⟨?_, row, hd.same fun k hk => keep k (hFd k hk) (pF k hk) (fun e => pGF (e ▸ hk)), b3.bag, ?_, fun z hz lz => ?_, ?_, h.low⟩, oT, grow⟩
  · rw [keep A hA pA pAG, ho.block A hA pAF]; exact h.head
  · have hn := h.nd
    have n1 := f3 A hA pA
    have n2 := f3 G hG pG
    have n3 : ∀ k, k ∈ Fd → k ∉ B :: t3.blocks := fun k hk => f3 k (hFd k hk) (pF k hk)
    have n4 := (List.nodup_append.1 (List.nodup_cons.1 (List.nodup_cons.1 hn).2).2).1
    refine List.nodup_cons.2 ⟨fun m => ?_, List.nodup_cons.2 ⟨fun m => ?_, List.nodup_append.2 ⟨n4, b3.bag.nd, fun a ha b hb e => n3 a ha (e ▸ hb)⟩⟩⟩
    · rcases List.mem_cons.1 m with e | m
      · exact pAG e
      · rcases List.mem_append.1 m with m | m
        · exact pAF m
        · exact n1 m
    · rcases List.mem_append.1 m with m | m
      · exact pGF m
      · exact n2 m
  · have hr := mer_root lx ly hxy z
    rw [lz] at hr
    simp at hr
    by_cases e : z = x
    · subst e; rw [put_same, sumOf_mer_x lx ly hxy, vx, vy]
    · rw [put_other _ _ e, h.val z hz hr.1, sumOf_mer_z lx ly hxy e hr.2]
  · rw [b3.items]
    refine (items_union hx hy lx ly hxy h.items vx vy b1.items b2.items rfl).2.2

set_option maxRecDepth 100000 in
set_option maxHeartbeats 4000000 in
theorem tUnion_diff (a b : Nat) (ha : a < n) (hb : b < n) (hne : lab a ≠ lab b) : Calls Try.prog 58 #[.pointer (some ⟨A, 0, none⟩), .int .i64 a, .int .i64 b] W fun e w' => e = .returned (.tuple #[.bool true, .int .i64 0]) ∧
    ∃ t' f', Tal w' A G S B Fd t' f' cg n (mer lab (lab a) (lab b)) wt ∧ Only (A :: G :: (Fd ++ B :: t.blocks)) W w' ∧ Grew W (A :: G :: (Fd ++ B :: t.blocks)) (A :: G :: (Fd ++ B :: t'.blocks)) := by
  have c1 := h.c.1
  have CV := Lib.hid (tvalid_any h)
  have CA := Lib.hid ((DLeast h.sets a ha).mono (R' := fun e w' => e = .returned (.tuple #[.int .i64 (lab a), .int .i64 0]) ∧ w'.cell? ⟨A, 1, none⟩ = some (.pointer (some ⟨S, 0, none⟩)) ∧ Hid (Tal w' A G S B Fd t f cg n lab wt ∧ Only Fd W w')) fun e w' ⟨he, hd, ho⟩ =>
    have h' := h.step_sets ho hd
    ⟨he, h'.c.1, Lib.hid ⟨h', ho⟩⟩)
  have CB := Lib.hid (fun (w1 : World) (h1 : Tal w1 A G S B Fd t f cg n lab wt) => (DLeast h1.sets b hb).mono (R' := fun e w' => e = .returned (.tuple #[.int .i64 (lab b), .int .i64 0]) ∧ w'.cell? ⟨A, 1, none⟩ = some (.pointer (some ⟨S, 0, none⟩)) ∧ Hid (Tal w' A G S B Fd t f cg n lab wt ∧ Only Fd w1 w')) fun e w' ⟨he, hd, ho⟩ =>
    have h' := h1.step_sets ho hd
    ⟨he, h'.c.1, Lib.hid ⟨h', ho⟩⟩)
  have hra := h.rootlt ha
  have hrb := h.rootlt hb
  obtain ⟨x, y, hxy, hx, hy, lx, ly, hs, hm⟩ : ∃ x y, x < y ∧ x < n ∧ y < n ∧ lab x = x ∧ lab y = y ∧ ((lab a = x ∧ lab b = y) ∨ (lab a = y ∧ lab b = x)) ∧ mer lab (lab a) (lab b) = mer lab x y := by
    rcases Nat.lt_or_gt_of_ne hne with hl | hl
    · exact ⟨lab a, lab b, hl, hra.1, hrb.1, hra.2, hrb.2, .inl ⟨rfl, rfl⟩, rfl⟩
    · exact ⟨lab b, lab a, hl, hrb.1, hra.1, hrb.2, hra.2, .inr ⟨rfl, rfl⟩, mer_comm _ _ _⟩
  rw [hm]
  have HT := Lib.hid h
  have HX := Lib.hid (And.intro hx (And.intro hy (And.intro lx (And.intro ly hxy))))
  have CU := Lib.hid (fun (w2 : World) (h2 : Tal w2 A G S B Fd t f cg n lab wt) => (DUnion h2.sets x y hx hy).mono (R' := fun e w' => e = .returned (.tuple #[.bool (decide (lab x ≠ lab y)), .int .i64 0]) ∧ w'.cell? ⟨A, 2, none⟩ = some (.slice (some ⟨G, 0, none⟩) n cg) ∧ w'.cell? ⟨A, 3, none⟩ = some (.pointer (some ⟨B, 0, none⟩)) ∧ w'.cell? ⟨G, x, none⟩ = some (.int .i64 (f x)) ∧ w'.cell? ⟨G, y, none⟩ = some (.int .i64 (f y)) ∧ Hid (DsuAt w' Fd S n (mer lab x y) ∧ Only Fd w2 w' ∧ Bag w' B t ∧ Row64 w' G n f)) fun e w' ⟨he, hd, ho⟩ =>
    have p := h2.parts
    have hr := h2.row.only ho p.2.2.1
    ⟨he, cells_keep ho h2.c.2.1 p.2.1, cells_keep ho h2.c.2.2 p.2.1, hr.cell hx, hr.cell hy, Lib.hid ⟨by rw [lx, ly] at hd; exact hd, ho, h2.bag.only ho fun k m m' => p.2.2.2.2.2 k m' m, hr⟩⟩)
  obtain ⟨pAG, _, _, pA, pG, _⟩ := h.parts
  have PN := Lib.hid (And.intro pA pG)
  have fxe := h.val x hx lx
  have fye := h.val y hy ly
  obtain ⟨g1, g2, _⟩ := items_union hx hy lx ly hxy h.items fxe fye rfl rfl rfl
  have hsz : t.sz ≤ 65536 := by rw [h.sz]; exact Nat.le_trans (many_le _ _) h.sets.bound
  have hfx : f x ≤ 3037000499 := by rw [fxe]; exact Nat.le_trans (sumOf_le _ _ _ _) h.low
  have hfy : f y ≤ 3037000499 := by rw [fye]; exact Nat.le_trans (sumOf_le _ _ _ _) h.low
  have GG := Lib.hid (And.intro g1 (And.intro g2 hsz))
  clear g1 g2 hsz fxe fye h hm hne hra hrb lx ly
  have q1 : ((x : Int) == (y : Int)) = false := by simp; omega
  have q2 : ((y : Int) == (x : Int)) = false := by simp; omega
  rcases hs with ⟨ea, eb⟩ | ⟨ea, eb⟩
  all_goals
    rw [ea] at CA
    rw [eb] at CB
    clear ea eb
    go_enter Try.func58, Try.ntmps58
    go_wp2_with fail
    refine CV.out.mono ?_
    rintro e w' ⟨rfl, rfl⟩
    go_wp2_with fail
    refine CA.out.mono ?_
    rintro e w1 ⟨rfl, d1, HP1⟩
    go_wp2_with fail
    refine (CB.out w1 HP1.out.1).mono ?_
    rintro e w2 ⟨rfl, d2, HP2⟩
    go_wp2_with fail
    refine (CU.out w2 HP2.out.1).mono ?_
    rintro e w3 ⟨rfl, k2, k3, kx, ky, HP3⟩
    go_wp2_with fail
    go_still_tail 11, (by kernel_rfl)
    go_wp2_with fail
    refine (Remove_ok B t (f x) 1 (w3.drewN 1) (HP3.out.2.2.1.drewN 1) GG.out.1).mono ?_
    rintro e w4 ⟨rfl, t1, b1⟩
    have l2 := cells_keep b1.only (show (w3.drewN 1).cell? _ = _ from k2) PN.out.1
    have l3 := cells_keep b1.only (show (w3.drewN 1).cell? _ = _ from k3) PN.out.1
    have lx := cells_keep b1.only (show (w3.drewN 1).cell? _ = _ from kx) PN.out.2
    have ly := cells_keep b1.only (show (w3.drewN 1).cell? _ = _ from ky) PN.out.2
    have AL := Lib.hid (And.intro (cell_lt' k2) (cell_lt' kx))
    have HB1 := Lib.hid b1
    clear b1 k2 k3 kx ky
    go_wp2_with fail
    go_still_tail 11, (by kernel_rfl)
    go_wp2_with fail
    refine (Remove_ok B t1 (f y) 1 (w4.drewN 1) (HB1.out.bag.drewN 1) (by rw [HB1.out.items]; exact GG.out.2.1)).mono ?_
    rintro e w5 ⟨rfl, t2, b2⟩
    have PN1 := Lib.hid (And.intro (HB1.out.out (show A < (w3.drewN 1).heap.size from AL.out.1) PN.out.1) (HB1.out.out (show G < (w3.drewN 1).heap.size from AL.out.2) PN.out.2))
    have m2 := cells_keep b2.only (show (w4.drewN 1).cell? _ = _ from l2) PN1.out.1
    have m3 := cells_keep b2.only (show (w4.drewN 1).cell? _ = _ from l3) PN1.out.1
    have mx := cells_keep b2.only (show (w4.drewN 1).cell? _ = _ from lx) PN1.out.2
    have my := cells_keep b2.only (show (w4.drewN 1).cell? _ = _ from ly) PN1.out.2
    have HR := (((HP3.out.2.2.2.same (w' := w3.drewN 1) rfl).only HB1.out.only PN.out.2).same (w' := w4.drewN 1) rfl).only b2.only PN1.out.2
    have zx := HR.frozen x
    have PN2 := Lib.hid (And.intro (b2.out (show A < (w4.drewN 1).heap.size from Nat.lt_of_lt_of_le AL.out.1 HB1.out.only.size) PN1.out.1) (b2.out (show G < (w4.drewN 1).heap.size from Nat.lt_of_lt_of_le AL.out.2 HB1.out.only.size) PN1.out.2))
    have HB2 := Lib.hid b2
    clear b2 l2 l3 lx ly HR
    go_wp2_with fail
    go_region
    all_goals
      have HS := Lib.hid (show t2.sz + 1 ≤ 2147483647 by
        have e1 := HB1.out.sz_le HT.out.bag.so
        have e2 := HB2.out.sz_le HB1.out.bag.so
        have := GG.out.2.2
        omega)
      obtain ⟨w6, e6⟩ : ∃ w6, (w5.setCell ⟨G, x, none⟩ (.int .i64 ((f x : Int) + (f y : Int)))).drew = w6 := ⟨_, rfl⟩
      have n2 : w6.cell? ⟨A, 2, none⟩ = some (.slice (some ⟨G, 0, none⟩) n cg) := by rw [← e6]; exact cells_keep ((Only.refl [G] w5).setCell (g := G) (by simp) _) m2 (by simpa using pAG)
      have n3 : w6.cell? ⟨A, 3, none⟩ = some (.pointer (some ⟨B, 0, none⟩)) := by rw [← e6]; exact cells_keep ((Only.refl [G] w5).setCell (g := G) (by simp) _) m3 (by simpa using pAG)
      have nx : w6.cell? ⟨G, x, none⟩ = some (.int .i64 ((f x : Int) + (f y : Int))) := by rw [← e6]; exact World.cell?_setCell_same _ _ _ mx
      have HB6 := Lib.hid (show Bag w6 B t2 by rw [← e6]; exact ((HB2.out.bag.only ((Only.refl [G] w5).setCell (g := G) (by simp) _) fun k m m' => PN2.out.2 (by simp at m'; rw [← m']; exact m))).drewN 1)
      rw [e6]
      clear m2 m3 mx my zx
      go_wp2_with fail
      go_still_tail 11, (by kernel_rfl)
      go_wp2_with fail
      refine (Add_ok B t2 ((f x : Int) + (f y : Int)) 1 (w6.drewN 1) (HB6.out.drewN 1) HS.out).mono ?_
      rintro e w7 ⟨rfl, t3, b3⟩
      rw [← e6] at b3
      have HF := Lib.hid (Tal.unite HT.out HX.out.1 HX.out.2.1 HX.out.2.2.1 HX.out.2.2.2.1 HX.out.2.2.2.2 HP3.out.1 ((HP1.out.2.trans HP2.out.2).trans HP3.out.2.1) HB1.out HB2.out b3)
      clear b3
      go_wp2_with fail
      go_ret2
      exact ⟨rfl, _, _, HF.out⟩
end

end Go.Proofs.Ytipgbbhgmoehfaa

/-
  Union of a tally: same sets, no elements; the contracts.
-/
namespace Go.Proofs.Ytipgbbhgmoehfaa
open Go.RowKit
set_option linter.unusedSimpArgs false
set_option linter.unusedSectionVars false

section
variable {W : World} {A G S B : Nat} {Fd : List Nat} {t : T} {f : Nat → Nat} {cg n : Nat} {lab wt : Nat → Nat} (h : Tal W A G S B Fd t f cg n lab wt)
include h
set_option maxRecDepth 100000 in
theorem tUnion_same (a b : Nat) (ha : a < n) (hb : b < n) (he : lab a = lab b) : Calls Try.prog 58 #[.pointer (some ⟨A, 0, none⟩), .int .i64 a, .int .i64 b] W fun e w' => e = .returned (.tuple #[.bool false, .int .i64 0]) ∧
    Tal w' A G S B Fd t f cg n lab wt ∧ Only Fd W w' := by
  have c1 := h.c.1
  have CV := Lib.hid (tvalid_any h)
  have CA := Lib.hid ((DLeast h.sets a ha).mono (R' := fun e w' => e = .returned (.tuple #[.int .i64 (lab a), .int .i64 0]) ∧ w'.cell? ⟨A, 1, none⟩ = some (.pointer (some ⟨S, 0, none⟩)) ∧ Hid (Tal w' A G S B Fd t f cg n lab wt ∧ Only Fd W w')) fun e w' ⟨he, hd, ho⟩ =>
    have h' := h.step_sets ho hd
    ⟨he, h'.c.1, Lib.hid ⟨h', ho⟩⟩)
  have CB := Lib.hid (fun (w1 : World) (h1 : Tal w1 A G S B Fd t f cg n lab wt) => (DLeast h1.sets b hb).mono (R' := fun e w' => e = .returned (.tuple #[.int .i64 (lab b), .int .i64 0]) ∧ Hid (Tal w' A G S B Fd t f cg n lab wt ∧ Only Fd w1 w')) fun e w' ⟨he, hd, ho⟩ =>
    have h' := h1.step_sets ho hd
    ⟨he, Lib.hid ⟨h', ho⟩⟩)
  rw [← he] at CB
  clear h he
  generalize lab a = x at *
  go_enter Try.func58, Try.ntmps58
  go_wp2_with fail
  refine CV.out.mono ?_
  rintro e w' ⟨rfl, rfl⟩
  go_wp2_with fail
  refine CA.out.mono ?_
  rintro e w1 ⟨rfl, d1, HP1⟩
  go_wp2_with fail
  refine (CB.out w1 HP1.out.1).mono ?_
  rintro e w2 ⟨rfl, HP2⟩
  go_wp2_with fail
  go_ret2
  exact ⟨rfl, HP2.out.1, HP1.out.2.trans HP2.out.2⟩
theorem tLeast_any (a : Int) : Calls Try.prog 83 #[.pointer (some ⟨S, 0, none⟩), .int .i64 a] W fun e w' => e = .returned (.tuple #[.int .i64 (if 0 ≤ a ∧ a < n then (lab a.toNat : Int) else 0), .int .i64 (if 0 ≤ a ∧ a < n then 0 else 3)]) ∧
    w'.cell? ⟨A, 1, none⟩ = some (.pointer (some ⟨S, 0, none⟩)) ∧ Hid (Tal w' A G S B Fd t f cg n lab wt ∧ Only Fd W w') := by
  by_cases ha : 0 ≤ a ∧ a < n
  · rw [if_pos ha, if_pos ha]
    have ea : ((a.toNat : Nat) : Int) = a := by omega
    have := DLeast h.sets a.toNat (by omega)
    rw [ea] at this
    refine this.mono fun e w' ⟨he, hd, ho⟩ => ?_
    have h' := h.step_sets ho hd
    exact ⟨he, h'.c.1, Lib.hid ⟨h', ho⟩⟩
  · rw [if_neg ha, if_neg ha]
    refine (DLeast_out h.sets a ha).mono ?_
    rintro e w' ⟨rfl, rfl⟩
    exact ⟨rfl, h.c.1, Lib.hid ⟨h, Only.refl _ _⟩⟩
set_option maxRecDepth 100000 in
theorem tUnion_out (a b : Int) (hab : ¬ ((0 ≤ a ∧ a < n) ∧ (0 ≤ b ∧ b < n))) : Calls Try.prog 58 #[.pointer (some ⟨A, 0, none⟩), .int .i64 a, .int .i64 b] W fun e w' => e = .returned (.tuple #[.bool false, .int .i64 3]) ∧
    Tal w' A G S B Fd t f cg n lab wt ∧ Only Fd W w' := by
  have c1 := h.c.1
  have CV := Lib.hid (tvalid_any h)
  have CA := Lib.hid (tLeast_any h a)
  have CB := Lib.hid (fun (w1 : World) (h1 : Tal w1 A G S B Fd t f cg n lab wt) => tLeast_any h1 b)
  clear h
  generalize (if 0 ≤ a ∧ a < n then (lab a.toNat : Int) else 0) = va at *
  generalize (if 0 ≤ b ∧ b < n then (lab b.toNat : Int) else 0) = vb at *
  by_cases ha : 0 ≤ a ∧ a < n
  · have hb : ¬ (0 ≤ b ∧ b < n) := fun hb => hab ⟨ha, hb⟩
    simp only [if_pos ha] at CA
    simp only [if_neg hb] at CB
    clear ha hb hab
    go_enter Try.func58, Try.ntmps58
    go_wp2_with fail
    refine CV.out.mono ?_
    rintro e w' ⟨rfl, rfl⟩
    go_wp2_with fail
    refine CA.out.mono ?_
    rintro e w1 ⟨rfl, d1, HP1⟩
    go_wp2_with fail
    refine (CB.out w1 HP1.out.1).mono ?_
    rintro e w2 ⟨rfl, d2, HP2⟩
    go_wp2_with fail
    go_ret2
    exact ⟨rfl, HP2.out.1, HP1.out.2.trans HP2.out.2⟩
  · simp only [if_neg ha] at CA
    clear ha hab
    generalize (if 0 ≤ b ∧ b < (n : Int) then (0 : Int) else 3) = cb at *
    go_enter Try.func58, Try.ntmps58
    go_wp2_with fail
    refine CV.out.mono ?_
    rintro e w' ⟨rfl, rfl⟩
    go_wp2_with fail
    refine CA.out.mono ?_
    rintro e w1 ⟨rfl, d1, HP1⟩
    go_wp2_with fail
    refine (CB.out w1 HP1.out.1).mono ?_
    rintro e w2 ⟨rfl, d2, HP2⟩
    go_wp2_with fail
    go_ret2
    exact ⟨rfl, HP2.out.1, HP1.out.2.trans HP2.out.2⟩
end

theorem TUnion {W : World} {F : List Nat} {A n : Nat} {lab wt : Nat → Nat} (h : TalAt W F A n lab wt) (a b : Nat) (ha : a < n) (hb : b < n) : Calls Try.prog 58 #[.pointer (some ⟨A, 0, none⟩), .int .i64 a, .int .i64 b] W fun e w' =>
    e = .returned (.tuple #[.bool (decide (lab a ≠ lab b)), .int .i64 0]) ∧ ∃ F', TalAt w' F' A n (mer lab (lab a) (lab b)) wt ∧ Only F W w' ∧ Grew W F F' := by
  obtain ⟨G, S, B, Fd, t, f, cg, rfl, h⟩ := h
  by_cases hne : lab a = lab b
  · refine (tUnion_same h a b ha hb hne).mono ?_
    rintro e w' ⟨rfl, ht, ho⟩
    rw [decide_eq_false (fun e => e hne), hne, mer_same]
    exact ⟨rfl, _, ⟨G, S, B, Fd, t, f, cg, rfl, ht⟩, ho.mono fun k hk => by simp [hk], fun k hk => .inl hk⟩
  · refine (tUnion_diff h a b ha hb hne).mono ?_
    rintro e w' ⟨rfl, t', f', ht, ho, hg⟩
    rw [decide_eq_true hne]
    exact ⟨rfl, _, ⟨G, S, B, Fd, t', f', cg, rfl, ht⟩, ho, hg⟩
theorem TUnion_out {W : World} {F : List Nat} {A n : Nat} {lab wt : Nat → Nat} (h : TalAt W F A n lab wt) (a b : Int) (hab : ¬ ((0 ≤ a ∧ a < n) ∧ (0 ≤ b ∧ b < n))) : Calls Try.prog 58 #[.pointer (some ⟨A, 0, none⟩), .int .i64 a, .int .i64 b] W fun e w' =>
    e = .returned (.tuple #[.bool false, .int .i64 3]) ∧ TalAt w' F A n lab wt ∧ Only F W w' := by
  obtain ⟨G, S, B, Fd, t, f, cg, rfl, h⟩ := h
  refine (tUnion_out h a b hab).mono ?_
  rintro e w' ⟨rfl, ht, ho⟩
  exact ⟨rfl, ⟨G, S, B, Fd, t, f, cg, rfl, ht⟩, ho.mono fun k hk => by simp [hk]⟩

end Go.Proofs.Ytipgbbhgmoehfaa

/-
  Clones of rows.
-/
namespace Go.Proofs.Ytipgbbhgmoehfaa
open Go.RowKit
set_option linter.unusedSimpArgs false
set_option linter.unusedSectionVars false

theorem infoI : ∃ i, Try.prog.info? 3 = some i ∧ i.zero = some (.int .i64 0) ∧ i.size = 1 ∧ i.bytes = 8 := by
  have h := infoInt
  cases e : Try.prog.info? 3 with
  | none => rw [e] at h; cases h
  | some i => rw [e] at h; simp at h; exact ⟨i, rfl, h.1, h.2.1, h.2.2⟩
theorem infoInt64 : (Try.prog.info? 2).map (fun i => (i.zero, i.size, i.bytes)) = some (some (.int .i64 0), 1, 8) := by kernel_rfl
theorem infoI64 : ∃ i, Try.prog.info? 2 = some i ∧ i.zero = some (.int .i64 0) ∧ i.size = 1 ∧ i.bytes = 8 := by
  have h := infoInt64
  cases e : Try.prog.info? 2 with
  | none => rw [e] at h; cases h
  | some i => rw [e] at h; simp at h; exact ⟨i, rfl, h.1, h.2.1, h.2.2⟩
theorem only_of_below' {w w' : World} (h : Below w.heap.size w w') : Only [] w w' := ⟨h.os, h.tape, h.output, h.size, fun k hk _ => h.block k hk⟩
theorem row_of_owns {w : World} {base n : Nat} {t : TypeId} {v : Value} {f : Nat → Value} {xs : List Value} (h : w.ownsRow base t 1 v n xs) (hv : v ≠ .slice none 0 0) (hx : ∀ i, i < n → xs[i]? = some (f i)) :
    ∃ g c, v = .slice (some ⟨g, 0, none⟩) n c ∧ base ≤ g ∧ RowGe w g t n f := by
  obtain ⟨hl, h | ⟨g, cap, cur, e, hg, hh, hn, _, hs, ht⟩⟩ := h
  · exact absurd h.1 hv
  · refine ⟨g, cap, e, hg, cur, hh, fun i hi => ?_⟩
    have := hx i hi
    rw [← ht, List.getElem?_take] at this
    rw [if_pos (by omega)] at this
    simpa using this

set_option maxRecDepth 100000 in
set_option maxHeartbeats 2000000 in
theorem Clone_int (g n c : Nat) (f : Nat → Nat) (w : World) (h : Row w g n f) (hn : n ≤ 65536) : Calls Try.prog 53 #[.slice (some ⟨g, 0, none⟩) n c] w fun e w' => ∃ g' c', e = .returned (.slice (some ⟨g', 0, none⟩) n c') ∧ Row w' g' n f ∧ w.heap.size ≤ g' ∧ Only [] w w' := by
  obtain ⟨i0, hi, hz0, hz1, hz2⟩ := infoI
  have q : ∀ (w : World) (a : Option Addr) (n c n' c' : Nat), (binOp .eql 30 (.slice a n c) (.slice none n' c')).run Try.prog w = .ok (.bool a.isNone) w := fun w a n c n' c' => Lib.run_eql_slice_nil w _ _ a n c n' c' Try.underlying30
  have u : ∀ w, Sem.run Try.prog (underlying 30) w = .ok (TypeDesc.slice 3) w := run_underlying Try.underlying30
  have HR := Lib.hid h
  clear h
  go_enter Try.func53, Try.ntmps53
  go_wp2_with (at_builtin; refine wpList_append_own _ rfl _ _ 30 rfl w.heap.size 3 i0 (.int .i64 0) 1 8 Try.underlying30 hi hz0 hz1 hz2 rfl (by decide) _ _ _ rfl (World.ownsRow_made w #[] 0 (Nat.le_refl _) (Nat.zero_le _) rfl) ⟨g, 0, none⟩ n c ((List.range n).map fun i => .int .i64 (f i)) rfl ?qc1 ?qc2 ?qc3 ?qc4 ?qc5 ?qc6 ?_)
  case qc1 => simp
  case qc2 =>
    intro j u hj
    have hjn : j < n := by
      have := (List.getElem?_eq_some_iff.1 hj).1
      simpa using this
    rw [Addr.add_lit]
    refine Lib.cell?_alloc_some _ ?_
    rw [Nat.zero_add, HR.out.cell hjn]
    have e : ((List.range n).map fun i => Value.int .i64 (f i : Int))[j]? = some (Value.int .i64 (f j : Int)) := by simp [hjn]
    rw [e] at hj
    exact hj
  case qc3 => intro u hu; obtain ⟨x, _, rfl⟩ := List.mem_map.1 hu; rfl
  case qc4 => unfold maxLen; omega
  case qc5 => omega
  case qc6 => simp
  intro v' w1 hown hgrow hnil
  go_wp2
  go_ret
  obtain ⟨g', c', hv, hg', hr⟩ := row_of_owns (f := fun i => Value.int .i64 (f i : Int)) (n := n) (by simpa using hown) (by simpa using hnil) (fun i hi => by simp [hi])
  refine ⟨g', c', by rw [hv]; rfl, hr, hg', ?_⟩
  exact only_of_below' (((Below.refl _ w).alloc (Nat.le_refl _) _).grown hgrow (by simp) (by intro k hk; simp [Value.ownBlock] at hk; omega))

/-- The partition of a copy lies in rows with the same numbers. -/
theorem Dsu.copied {w w4 : World} {S U L Z n : Nat} {lab up rt d least size : Nat → Nat} {cu cl cz : Nat} (h : Dsu w S U L Z n lab up rt d least size cu cl cz) {S' U' L' Z' cu' cl' cz' : Nat}
    (hS : w4.heap[S']? = some (.cells (setsCells S' U' L' Z' n cu' cl' cz' (many n fun a => lab a == a)) 172 (0, 0))) (hU : Row w4 U' n up) (hL : Row w4 L' n least) (hZ : Row w4 Z' n size) (u1 : U' ≠ L') (u2 : U' ≠ Z') (u3 : L' ≠ Z') :
    Dsu w4 S' U' L' Z' n lab up rt d least size cu' cl' cz' := ⟨hS, hU, hL, hZ, u1, u2, u3, h.forest, h.bound, h.labE, h.leastE, h.lowE, h.sizeE⟩

/-- What is held while a partition is copied. -/
def CopyS (w : World) (S U L Z n cu cl cz : Nat) (m : Int) (W : World) : Prop := W.cell? ⟨S, 1, none⟩ = some (.slice (some ⟨U, 0, none⟩) n cu) ∧ W.cell? ⟨S, 2, none⟩ = some (.slice (some ⟨L, 0, none⟩) n cl) ∧ W.cell? ⟨S, 3, none⟩ = some (.slice (some ⟨Z, 0, none⟩) n cz) ∧ W.cell? ⟨S, 4, none⟩ = some (.int .i64 m) ∧ Only [] w W
theorem CopyS.step {w W W' : World} {S U L Z n cu cl cz : Nat} {m : Int} (h : CopyS w S U L Z n cu cl cz m W) (o : Only [] W W') : CopyS w S U L Z n cu cl cz m W' :=
  ⟨cells_keep o h.1 (by simp), cells_keep o h.2.1 (by simp), cells_keep o h.2.2.1 (by simp), cells_keep o h.2.2.2.1 (by simp), h.2.2.2.2.trans o⟩
theorem cloned {w W : World} {S U L Z n cu cl cz g c : Nat} {m : Int} {f : Nat → Nat} (hn : n ≤ 65536) (hr : Row w g n f) (h : CopyS w S U L Z n cu cl cz m W) : Calls Try.prog 53 #[.slice (some ⟨g, 0, none⟩) n c] W fun e w' =>
    (∃ g' c', e = .returned (.slice (some ⟨g', 0, none⟩) n c') ∧ Hid (Row w' g' n f ∧ W.heap.size ≤ g' ∧ Only [] W w')) ∧ CopyS w S U L Z n cu cl cz m w' :=
  (Clone_int g n c f W (hr.only h.2.2.2.2 (by simp)) hn).mono fun _ _ ⟨g', c', he, h1, h2, h3⟩ => ⟨⟨g', c', he, Lib.hid ⟨h1, h2, h3⟩⟩, h.step h3⟩

end Go.Proofs.Ytipgbbhgmoehfaa

/-
  The contract of Copy of a tally.
-/
namespace Go.Proofs.Ytipgbbhgmoehfaa
open Go.RowKit
set_option linter.unusedSimpArgs false
set_option linter.unusedSectionVars false

/-- What is held while a tally is copied. -/
def TCopyS (w : World) (A S G B n cg : Nat) (W : World) : Prop := W.cell? ⟨A, 1, none⟩ = some (.pointer (some ⟨S, 0, none⟩)) ∧ W.cell? ⟨A, 2, none⟩ = some (.slice (some ⟨G, 0, none⟩) n cg) ∧ W.cell? ⟨A, 3, none⟩ = some (.pointer (some ⟨B, 0, none⟩)) ∧ Only [] w W
theorem TCopyS.step {w W W' : World} {A S G B n cg : Nat} (h : TCopyS w A S G B n cg W) (o : Only [] W W') : TCopyS w A S G B n cg W' :=
  ⟨cells_keep o h.1 (by simp), cells_keep o h.2.1 (by simp), cells_keep o h.2.2.1 (by simp), h.2.2.2.trans o⟩
theorem Tal.copied {w w4 : World} {A G S B : Nat} {Fd : List Nat} {t : T} {f : Nat → Nat} {cg n : Nat} {lab wt : Nat → Nat} (h : Tal w A G S B Fd t f cg n lab wt) {A' G' S' B' : Nat} {Fd' : List Nat} {t' : T} {cg' : Nat}
    (hA : w4.heap[A']? = some (.cells #[.pointer (some ⟨A', 0, none⟩), .pointer (some ⟨S', 0, none⟩), .slice (some ⟨G', 0, none⟩) n cg', .pointer (some ⟨B', 0, none⟩)] 152 (0, 0))) (hG : Row64 w4 G' n f) (hS : DsuAt w4 Fd' S' n lab) (hB : Bag w4 B' t') (ht : t'.items = t.items)
    (hn : (A' :: G' :: (Fd' ++ B' :: t'.blocks)).Nodup) : Tal w4 A' G' S' B' Fd' t' f cg' n lab wt := ⟨hA, hG, hS, hB, hn, h.val, by rw [ht]; exact h.items, h.low⟩
theorem DsuAt.nodup {W : World} {F : List Nat} {S n : Nat} {lab : Nat → Nat} (h : DsuAt W F S n lab) : F.Nodup := by
  obtain ⟨U, L, Z, up, rt, d, least, size, cu, cl, cz, rfl, h⟩ := h
  obtain ⟨a, b, c⟩ := h.suz
  have := h.ul
  have := h.uz
  have := h.lz
  simp [*]

end Go.Proofs.Ytipgbbhgmoehfaa
