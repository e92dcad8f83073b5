/-
  The contract of Union.
-/
import Derived.Test.YtbafacdknaopjaaD3
import Derived.RegionTactic
namespace Go.Proofs.Ytbafacdknaopjaa
open Go.RowKit
set_option linter.unusedSimpArgs false

theorem Dsu.drewN {W : World} {S U L Z n : Nat} {lab up rt d least size : Nat → Nat} {cu cl cz : Nat} (h : Dsu W S U L Z n lab up rt d least size cu cl cz) (k : Nat) : Dsu (W.drewN k) S U L Z n lab up rt d least size cu cl cz := h.same fun _ _ => rfl
theorem Row.set_other {w : World} {g n g2 i : Nat} {f : Nat → Nat} (h : Row w g n f) (hg : g ≠ g2) (v : Value) : Row (w.setCell ⟨g2, i, none⟩ v) g n f := h.same (heap_setCell_other w ⟨g2, i, none⟩ g v hg)
theorem head_other {w : World} {S g i : Nat} {o : Obj} (h : w.heap[S]? = some o) (hg : S ≠ g) (v : Value) : (w.setCell ⟨g, i, none⟩ v).heap[S]? = some o := (heap_setCell_other w ⟨g, i, none⟩ S v hg).trans h
theorem Dsu.after {w : World} {S U L Z n : Nat} {lab up rt d least size : Nat → Nat} {cu cl cz : Nat} (h : Dsu w S U L Z n lab up rt d least size cu cl cz) {x y : Nat} (hx : x < n) (hy : y < n) (rx : rt x = x) (ry : rt y = y) (hne : x ≠ y)
    {s c m : Int} (hs : s = (size x + size y : Nat)) (hc : c = ((many n fun a => lab a == a) - 1 : Nat)) (hm : m = (min (least x) (least y) : Nat)) :
    Dsu ((((w.setCell ⟨U, y, none⟩ (.int .i64 x)).setCell ⟨Z, x, none⟩ (.int .i64 s)).setCell ⟨L, x, none⟩ (.int .i64 m)).setCell ⟨S, 4, none⟩ (.int .i64 c)) S U L Z n (mer lab (least x) (least y)) (put up y x) (fun a => if rt a = y then x else rt a) (fun a => if rt a = y then d a + d x + 1 else d a) (put least x (min (least x) (least y))) (put size x (size x + size y)) cu cl cz := by
  subst hs hc hm
  obtain ⟨hSU, hSL, hSZ⟩ := h.suz
  refine h.unite hx hy rx ry hne ?_ ?_ ?_ ?_
  · exact heap_setCell_same _ S 4 _ 185 _ (head_other (head_other (head_other h.head hSU _) hSZ _) hSL _)
  · exact (((h.rowU.put y x).set_other h.uz _).set_other h.ul _).set_other hSU.symm _
  · exact (((h.rowL.set_other h.ul.symm _).set_other h.lz _).put x _).set_other hSL.symm _
  · exact (((h.rowZ.set_other h.uz.symm _).put x _).set_other h.lz.symm _).set_other hSZ.symm _

section
variable {W : World} {S U L Z n : Nat} {lab up rt d least size : Nat → Nat} {cu cl cz : Nat} (h : Dsu W S U L Z n lab up rt d least size cu cl cz)
include h
set_option maxRecDepth 100000 in
set_option maxHeartbeats 4000000 in
theorem SUnion_diff (a b : Nat) (ha : a < n) (hb : b < n) (hne : rt a ≠ rt b) : Calls Try.prog 77 #[.pointer (some ⟨S, 0, none⟩), .int .i64 a, .int .i64 b] W fun e w' => e = .returned (.tuple #[.bool true, .int .i64 0]) ∧
    ∃ up' rt' d' least' size', Dsu w' S U L Z n (mer lab (lab a) (lab b)) up' rt' d' least' size' cu cl cz ∧ Only [S, U, L, Z] W w' := by
  have CV := Lib.hid (svalid_any h)
  have CA := Lib.hid (has_any h (a : Int))
  have CB := Lib.hid (has_any h (b : Int))
  rw [decide_eq_true (show 0 ≤ (a : Int) ∧ (a : Int) < n by omega)] at CA
  rw [decide_eq_true (show 0 ≤ (b : Int) ∧ (b : Int) < n by omega)] at CB
  have CR := Lib.hid (root_dsu h a ha)
  have hra := h.forest.rlt a ha
  have hrb := h.forest.rlt b hb
  obtain ⟨x, hx⟩ : ∃ x, rt a = x := ⟨_, rfl⟩
  obtain ⟨y, hy⟩ : ∃ y, rt b = y := ⟨_, rfl⟩
  have hxx := h.forest.rrt ha
  have hyy := h.forest.rrt hb
  have hla := h.labE a ha
  have hlb := h.labE b hb
  have hsx := h.sizeE (rt a) hra hxx
  have hsy := h.sizeE (rt b) hrb hyy
  have hcnt : 1 ≤ many n fun a => lab a == a := by
    have : many n (fun c => c == lab a) ≤ many n fun a => lab a == a := by
      unfold many
      refine List.countP_mono_left fun c hc hcc => ?_
      simp only [beq_iff_eq] at hcc ⊢
      have h1 := h.leastE a ha
      rw [hcc, hla, h.labE _ h1.1, h1.2]
    have h2 := many_one (n := n) (M := lab a) (by rw [hla]; exact (h.leastE a ha).1)
    omega
  have hmx := many_le n fun c => rt c == rt a
  have hmy := many_le n fun c => rt c == rt b
  rw [← hsx] at hmx
  rw [← hsy] at hmy
  rw [hx] at hxx hla hra CR hne hmx
  rw [hy] at hyy hlb hrb hne hmy
  have hbd := h.bound
  have HL := Lib.hid (And.intro hla hlb)
  have HXX := Lib.hid (And.intro hxx hyy)
  have CR2 := Lib.hid (fun W1 up1 (h1 : Dsu W1 S U L Z n lab up1 rt d least size cu cl cz) => root_dsu h1 b hb)
  rw [hy] at CR2
  obtain ⟨hSU, hSL, hSZ⟩ := h.suz
  have hUL := h.ul
  have hUZ := h.uz
  have hLZ := h.lz
  have hUS := Ne.symm hSU
  have hLS := Ne.symm hSL
  have hZS := Ne.symm hSZ
  have hLU := Ne.symm hUL
  have hZU := Ne.symm hUZ
  have hZL := Ne.symm hLZ
  have hyx : y ≠ x := fun e => hne e.symm
  have q1 : ((x : Int) == (y : Int)) = false := by simp; omega
  clear h hx hy hxx hyy hla hlb hsx hsy
  go_enter Try.func77, Try.ntmps77
  go_wp2_with fail
  refine CV.out.mono ?_
  rintro e w' ⟨rfl, rfl⟩
  go_wp2_with fail
  refine CA.out.mono ?_
  rintro e w' ⟨rfl, rfl⟩
  go_wp2_with fail
  refine CB.out.mono ?_
  rintro e w' ⟨rfl, rfl⟩
  go_wp2_with fail
  refine CR.out.mono ?_
  rintro e w1 ⟨rfl, up1, hd1, hO1⟩
  have CR2' := Lib.hid (CR2.out w1 up1 hd1)
  have HO1 := Lib.hid hO1
  clear hd1 hO1 CR2 CR CV CA CB
  go_wp2_with fail
  refine CR2'.out.mono ?_
  rintro e w2 ⟨rfl, up2, hd2, hO2⟩
  have D2 := Lib.hid hd2
  have HO2 := Lib.hid (HO1.out.trans hO2)
  have s1 := hd2.c.1
  have s2 := hd2.c.2.1
  have s3 := hd2.c.2.2.1
  have s4 := hd2.c.2.2.2
  have z1 := hd2.rowZ.cell hra
  have z2 := hd2.rowZ.cell hrb
  clear hd2 hO2 CR2' HO1
  obtain ⟨N, hN⟩ : ∃ N, (many n fun a => lab a == a) = N := ⟨_, rfl⟩
  rw [hN] at s4 hcnt
  have HN := Lib.hid hN
  have hNn : N ≤ n := hN ▸ many_le n _
  clear hN
  by_cases hlt : size x < size y
  · go_wp2_with fail
    go_quiet (fail)
    have c1 := D2.out.rowU.frozen x
    have c2 := D2.out.rowZ.cell hrb
    have c3 := D2.out.rowZ.cell hra
    have c4 := D2.out.rowZ.frozen y
    have c5 := D2.out.rowL.cell hrb
    have c6 := D2.out.rowL.cell hra
    have c7 := D2.out.rowL.frozen y
    have c8 := frozen_of_heap (i := 4) D2.out.head
    have c9 := D2.out.rowU.cell hra
    go_wp2_with fail
    go_region
    go_wp2_with fail
    go_region
    go_wp2_with fail
    all_goals
      go_ret2
      refine ⟨rfl, ?_, ?_⟩
      · rw [HL.out.1, HL.out.2, mer_comm]
        exact ⟨_, _, _, _, _, Dsu.drewN ((D2.out.drewN _).after hrb hra HXX.out.2 HXX.out.1 hyx (by omega) (by rw [HN.out]; omega) (by omega)) 2⟩
      · exact ((((((HO2.out.mono fun k hk => by simp at hk; simp [hk]).drewN _).setCell (by simp) _).setCell (by simp) _).setCell (by simp) _).setCell (by simp) _).drewN 2
  · go_wp2_with fail
    go_quiet (fail)
    have c1 := D2.out.rowU.frozen y
    have c2 := D2.out.rowZ.cell hra
    have c3 := D2.out.rowZ.cell hrb
    have c4 := D2.out.rowZ.frozen x
    have c5 := D2.out.rowL.cell hra
    have c6 := D2.out.rowL.cell hrb
    have c7 := D2.out.rowL.frozen x
    have c8 := frozen_of_heap (i := 4) D2.out.head
    have c9 := D2.out.rowU.cell hrb
    go_wp2_with fail
    go_region
    go_wp2_with fail
    go_region
    go_wp2_with fail
    all_goals
      go_ret2
      refine ⟨rfl, ?_, ?_⟩
      · rw [HL.out.1, HL.out.2]
        exact ⟨_, _, _, _, _, Dsu.drewN ((D2.out.drewN _).after hra hrb HXX.out.1 HXX.out.2 hne (by omega) (by rw [HN.out]; omega) (by omega)) 2⟩
      · exact ((((((HO2.out.mono fun k hk => by simp at hk; simp [hk]).drewN _).setCell (by simp) _).setCell (by simp) _).setCell (by simp) _).setCell (by simp) _).drewN 2
end
end Go.Proofs.Ytbafacdknaopjaa
