/-
  The contract of rotate.
-/
import Derived.Test.YtbafacdknaopjaaA2
namespace Go.Proofs.Ytbafacdknaopjaa
open Go.RowKit

theorem ht_le (t : T) : t.ht ≤ t.ds := by
  induction t with
  | leaf => exact Nat.le_refl _
  | node g l x t r ihl ihr => simp only [T.ht, T.ds]; omega
theorem set_other {W : World} {g k i : Nat} {o : Obj} (v : Value) (h : W.heap[k]? = some o) (hne : k ≠ g) : (W.setCell ⟨g, i, none⟩ v).heap[k]? = some o :=
  (heap_setCell_other W ⟨g, i, none⟩ k v hne).trans h
theorem T.At.set {t : T} {w : World} (h : t.At w) {g i : Nat} (v : Value) (hg : g ∉ t.blocks) : t.At (w.setCell ⟨g, i, none⟩ v) :=
  h.same fun k hk => heap_setCell_other w ⟨g, i, none⟩ k v fun e => hg ((show k = g from e) ▸ hk)

theorem T.At.drew {t : T} {w : World} (h : t.At w) : t.At w.drew := h.same fun _ _ => rfl

set_option maxRecDepth 100000 in
set_option maxHeartbeats 2000000 in
theorem rotate0_any (g gk t u : Nat) (a b r : T) (x y s d h s2 d2 h2 : Int) (w : World)
    (hg : w.heap[g]? = some (.cells (T.cells (.node gk a y u b) x t r s d h) 194 (0, 0))) (hk : w.heap[gk]? = some (.cells (T.cells a y u b s2 d2 h2) 194 (0, 0)))
    (ha : a.At w) (hb : b.At w) (hr : r.At w) (hnd : (T.node g (.node gk a y u b) x t r).blocks.Nodup)
    (hs : t + (u + a.sz + b.sz) + r.sz ≤ 2 ^ 60) (hd : 1 + (1 + a.ds + b.ds) + r.ds ≤ 2 ^ 60) :
    Calls Try.prog 185 #[.pointer (some ⟨g, 0, none⟩), .int .i64 0] w fun e w' => e = .returned (.pointer (some ⟨gk, 0, none⟩)) ∧ (T.node gk a y u (.node g b x t r)).At w' ∧ Only (T.node g (.node gk a y u b) x t r).blocks w w' := by
  obtain ⟨c0, c1, _⟩ := node_cells hg
  obtain ⟨k0, k1, _⟩ := node_cells hk
  have fz := fun i => frozen_of_heap (i := i) hg
  have fk := fun i => frozen_of_heap (i := i) hk
  have hne : g ≠ gk := by
    intro e
    simp only [T.blocks, List.nodup_cons, List.mem_append, List.mem_cons] at hnd
    exact hnd.1 (.inl (.inl e))
  have hne2 : gk ≠ g := fun e => hne e.symm
  have HG := Lib.hid hg
  have HK := Lib.hid hk
  have HA := Lib.hid ha
  have HB := Lib.hid hb
  have HR := Lib.hid hr
  have HN := Lib.hid hnd
  clear hg hk ha hb hr hnd
  have z0 := fz 0
  have z1 := fk 1
  clear fz fk
  replace c0 : w.cell? ⟨g, 0, none⟩ = some (.pointer (some ⟨gk, 0, none⟩)) := c0
  go_enter Try.func185, Try.ntmps185
  go_wp2
  go_region
  go_wp2_with fail
  have G1 := set_other (g := gk) (i := 1) (.pointer (some ⟨g, 0, none⟩)) (set_heap (i := 0) b.ptr HG.out) hne
  have K1 := set_heap (i := 1) (.pointer (some ⟨g, 0, none⟩)) (set_other (g := g) (i := 0) b.ptr HK.out hne2)
  have hn := HN.out
  simp only [T.blocks, List.nodup_cons, List.mem_append, List.mem_cons, List.cons_append, not_or] at hn
  obtain ⟨⟨_, ⟨hga, hgb⟩, hgr⟩, ⟨⟨hka, hkb⟩, hkr⟩, hnab⟩ := hn
  have B1 := (HB.out.set (g := g) (i := 0) b.ptr hgb).set (g := gk) (i := 1) (.pointer (some ⟨g, 0, none⟩)) hkb
  have R1 := (HR.out.set (g := g) (i := 0) b.ptr hgr).set (g := gk) (i := 1) (.pointer (some ⟨g, 0, none⟩)) hkr
  have A1 := (HA.out.set (g := g) (i := 0) b.ptr hga).set (g := gk) (i := 1) (.pointer (some ⟨g, 0, none⟩)) hka
  have l1 := ht_le b
  have l2 := ht_le r
  have l3 := ht_le a
  refine (refresh_any g t b r x s d h (World.drew _) (by exact G1) B1.drew R1.drew hgb hgr (by omega) (by omega) (by omega)).mono ?_
  rintro e w1 ⟨⟨v, rfl⟩, hg1, ho1⟩
  have nin : ∀ {t : T}, g ∉ t.blocks → ∀ k, k ∈ t.blocks → k ∉ [g] := fun h k hk hm => h (by rw [List.mem_singleton] at hm; rw [← hm]; exact hk)
  have nin2 : ∀ {t : T}, gk ∉ t.blocks → ∀ k, k ∈ t.blocks → k ∉ [gk] := fun h k hk hm => h (by rw [List.mem_singleton] at hm; rw [← hm]; exact hk)
  have N1 : (T.node g b x t r).At w1 := ⟨hg1, B1.drew.only ho1 (nin hgb), R1.drew.only ho1 (nin hgr)⟩
  have A2 := A1.drew.only ho1 (nin hga)
  have K2 := (ho1.block gk (heap_lt (show (World.drew _).heap[gk]? = _ from K1)) (fun hm => hne2 (List.mem_singleton.1 hm))).trans K1
  go_wp2_with fail
  refine (refresh_any gk u a (T.node g b x t r) y s2 d2 h2 w1 (by exact K2) A2 N1 hka (by simp only [T.blocks, List.mem_cons, List.mem_append, not_or]; exact ⟨hne2, hkb, hkr⟩) (by simp only [T.sz]; omega) (by simp only [T.ds]; omega) (by simp only [T.ht]; omega)).mono ?_
  rintro e w2 ⟨⟨v2, rfl⟩, hg2, ho2⟩
  go_wp2
  go_ret
  refine ⟨rfl, ⟨hg2, A2.only ho2 (nin2 hka), N1.only ho2 (nin2 (by simp only [T.blocks, List.mem_cons, List.mem_append, not_or]; exact ⟨hne2, hkb, hkr⟩))⟩, ?_⟩
  have mg : g ∈ (T.node g (.node gk a y u b) x t r).blocks := by simp [T.blocks]
  have mk : gk ∈ (T.node g (.node gk a y u b) x t r).blocks := by simp [T.blocks]
  exact ((((((Only.refl _ w).setCell mg _).setCell mk _).drewN 1).trans (ho1.mono fun k hk => by rw [List.mem_singleton.1 hk]; exact mg)).trans (ho2.mono fun k hk => by rw [List.mem_singleton.1 hk]; exact mk))
set_option maxRecDepth 100000 in
set_option maxHeartbeats 2000000 in
theorem rotate1_any (g gk t u : Nat) (a b r : T) (x y s d h s2 d2 h2 : Int) (w : World)
    (hg : w.heap[g]? = some (.cells (T.cells r x t (.node gk a y u b) s d h) 194 (0, 0))) (hk : w.heap[gk]? = some (.cells (T.cells a y u b s2 d2 h2) 194 (0, 0)))
    (ha : a.At w) (hb : b.At w) (hr : r.At w) (hnd : (T.node g r x t (.node gk a y u b)).blocks.Nodup)
    (hs : t + r.sz + (u + a.sz + b.sz) ≤ 2 ^ 60) (hd : 1 + r.ds + (1 + a.ds + b.ds) ≤ 2 ^ 60) :
    Calls Try.prog 185 #[.pointer (some ⟨g, 0, none⟩), .int .i64 1] w fun e w' => e = .returned (.pointer (some ⟨gk, 0, none⟩)) ∧ (T.node gk (.node g r x t a) y u b).At w' ∧ Only (T.node g r x t (.node gk a y u b)).blocks w w' := by
  obtain ⟨c0, c1, _⟩ := node_cells hg
  obtain ⟨k0, k1, _⟩ := node_cells hk
  have fz := fun i => frozen_of_heap (i := i) hg
  have fk := fun i => frozen_of_heap (i := i) hk
  have hne : g ≠ gk := by
    intro e
    simp only [T.blocks, List.nodup_cons, List.mem_append, List.mem_cons] at hnd
    exact hnd.1 (.inr (.inl e))
  have hne2 : gk ≠ g := fun e => hne e.symm
  have HG := Lib.hid hg
  have HK := Lib.hid hk
  have HA := Lib.hid ha
  have HB := Lib.hid hb
  have HR := Lib.hid hr
  have HN := Lib.hid hnd
  clear hg hk ha hb hr hnd
  have z0 := fz 1
  have z1 := fk 0
  clear fz fk
  replace c1 : w.cell? ⟨g, 1, none⟩ = some (.pointer (some ⟨gk, 0, none⟩)) := c1
  go_enter Try.func185, Try.ntmps185
  go_wp2
  go_region
  go_wp2_with fail
  have G1 := set_other (g := gk) (i := 0) (.pointer (some ⟨g, 0, none⟩)) (set_heap (i := 1) a.ptr HG.out) hne
  have K1 := set_heap (i := 0) (.pointer (some ⟨g, 0, none⟩)) (set_other (g := g) (i := 1) a.ptr HK.out hne2)
  have hn := HN.out
  simp only [T.blocks, List.nodup_cons, List.mem_append, List.mem_cons, not_or] at hn
  obtain ⟨⟨hgr, _, hga, hgb⟩, hn2⟩ := hn
  have hkk := List.nodup_append.1 hn2
  have hkr : gk ∉ r.blocks := fun hm => hkk.2.2 gk hm gk (by simp) rfl
  have hkc := List.nodup_cons.1 hkk.2.1
  have hka : gk ∉ a.blocks := fun hm => hkc.1 (List.mem_append_left _ hm)
  have hkb : gk ∉ b.blocks := fun hm => hkc.1 (List.mem_append_right _ hm)
  have B1 := (HB.out.set (g := g) (i := 1) a.ptr hgb).set (g := gk) (i := 0) (.pointer (some ⟨g, 0, none⟩)) hkb
  have R1 := (HR.out.set (g := g) (i := 1) a.ptr hgr).set (g := gk) (i := 0) (.pointer (some ⟨g, 0, none⟩)) hkr
  have A1 := (HA.out.set (g := g) (i := 1) a.ptr hga).set (g := gk) (i := 0) (.pointer (some ⟨g, 0, none⟩)) hka
  have l1 := ht_le b
  have l2 := ht_le r
  have l3 := ht_le a
  refine (refresh_any g t r a x s d h (World.drew _) (by exact G1) R1.drew A1.drew hgr hga (by omega) (by omega) (by omega)).mono ?_
  rintro e w1 ⟨⟨v, rfl⟩, hg1, ho1⟩
  have nin : ∀ {t : T}, g ∉ t.blocks → ∀ k, k ∈ t.blocks → k ∉ [g] := fun h k hk hm => h (by rw [List.mem_singleton] at hm; rw [← hm]; exact hk)
  have nin2 : ∀ {t : T}, gk ∉ t.blocks → ∀ k, k ∈ t.blocks → k ∉ [gk] := fun h k hk hm => h (by rw [List.mem_singleton] at hm; rw [← hm]; exact hk)
  have N1 : (T.node g r x t a).At w1 := ⟨hg1, R1.drew.only ho1 (nin hgr), A1.drew.only ho1 (nin hga)⟩
  have B2 := B1.drew.only ho1 (nin hgb)
  have K2 := (ho1.block gk (heap_lt (show (World.drew _).heap[gk]? = _ from K1)) (fun hm => hne2 (List.mem_singleton.1 hm))).trans K1
  go_wp2_with fail
  refine (refresh_any gk u (T.node g r x t a) b y s2 d2 h2 w1 (by exact K2) N1 B2 (by simp only [T.blocks, List.mem_cons, List.mem_append, not_or]; exact ⟨hne2, hkr, hka⟩) hkb (by simp only [T.sz]; omega) (by simp only [T.ds]; omega) (by simp only [T.ht]; omega)).mono ?_
  rintro e w2 ⟨⟨v2, rfl⟩, hg2, ho2⟩
  go_wp2
  go_ret
  refine ⟨rfl, ⟨hg2, N1.only ho2 (nin2 (by simp only [T.blocks, List.mem_cons, List.mem_append, not_or]; exact ⟨hne2, hkr, hka⟩)), B2.only ho2 (nin2 hkb)⟩, ?_⟩
  have mg : g ∈ (T.node g r x t (.node gk a y u b)).blocks := by simp [T.blocks]
  have mk : gk ∈ (T.node g r x t (.node gk a y u b)).blocks := by simp [T.blocks]
  exact ((((((Only.refl _ w).setCell mg _).setCell mk _).drewN 1).trans (ho1.mono fun k hk => by rw [List.mem_singleton.1 hk]; exact mg)).trans (ho2.mono fun k hk => by rw [List.mem_singleton.1 hk]; exact mk))
end Go.Proofs.Ytbafacdknaopjaa
