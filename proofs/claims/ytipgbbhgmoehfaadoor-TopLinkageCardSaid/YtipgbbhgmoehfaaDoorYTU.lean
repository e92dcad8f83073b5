import Derived.Test.YtipgbbhgmoehfaaDoorZ1
import Derived.Test.YtipgbbhgmoehfaaDoorYTP
/-
  recon.union.find: rows of pairs, the root of an element.
-/
namespace Go.Proofs.YtipgbbhgmoehfaaDoor
open Go.RowKit
attribute [local go_sem] Oper.semAt_some
set_option linter.unusedSimpArgs false
set_option linter.unusedVariables false

/-- A row of pairs of numbers. -/
def Row2 (w : World) (g n : Nat) (f s : Nat → Nat) : Prop := RowGe w g 66 (2 * n) (fun i => .int .i64 ((if i % 2 = 0 then f (i / 2) else s (i / 2) : Nat) : Int))
theorem Row2.heap {w : World} {g n : Nat} {f s : Nat → Nat} (h : Row2 w g n f s) : ∃ cs, w.heap[g]? = some (.cells cs 66 (0, 0)) := let ⟨c, hc, _⟩ := h; ⟨c, hc⟩
theorem Row2.lt {w : World} {g n : Nat} {f s : Nat → Nat} (h : Row2 w g n f s) : g < w.heap.size := let ⟨_, hc⟩ := h.heap; heap_lt hc
theorem Row2.c0 {w : World} {g n : Nat} {f s : Nat → Nat} (h : Row2 w g n f s) {a : Nat} (ha : a < n) : w.cell? ⟨g, a * 2, none⟩ = some (.int .i64 (f a)) := by
  obtain ⟨c, hc, r⟩ := h
  refine (cell_of_heap hc (r (a * 2) (by omega))).trans ?_
  dsimp only
  rw [if_pos (by omega), show a * 2 / 2 = a by omega]
theorem Row2.c1 {w : World} {g n : Nat} {f s : Nat → Nat} (h : Row2 w g n f s) {a : Nat} (ha : a < n) : w.cell? ⟨g, a * 2 + 1, none⟩ = some (.int .i64 (s a)) := by
  obtain ⟨c, hc, r⟩ := h
  refine (cell_of_heap hc (r (a * 2 + 1) (by omega))).trans ?_
  dsimp only
  rw [if_neg (by omega), show (a * 2 + 1) / 2 = a by omega]
theorem Row2.frozen {w : World} {g n : Nat} {f s : Nat → Nat} (h : Row2 w g n f s) (i : Nat) : w.frozen? ⟨g, i, none⟩ = false := by
  obtain ⟨c, hc, r⟩ := h
  exact frozen_of_heap hc
theorem Row2.put0 {w : World} {g n : Nat} {f s : Nat → Nat} (h : Row2 w g n f s) (a x : Nat) : Row2 (w.setCell ⟨g, a * 2, none⟩ (.int .i64 x)) g n (put f a x) s := by
  refine (RowGe.set h (a * 2) (.int .i64 x)).congr fun i hi => ?_
  unfold Go.Proofs.YtipgbbhgmoehfaaDoor.put
  by_cases e : i = a * 2
  · rw [if_pos e, if_pos (by omega), if_pos (by omega)]
  · rw [if_neg e]
    by_cases e2 : i % 2 = 0
    · rw [if_pos e2, if_pos e2, if_neg (by omega)]
    · rw [if_neg e2, if_neg e2]
theorem Row2.put1 {w : World} {g n : Nat} {f s : Nat → Nat} (h : Row2 w g n f s) (a x : Nat) : Row2 (w.setCell ⟨g, a * 2 + 1, none⟩ (.int .i64 x)) g n f (put s a x) := by
  refine (RowGe.set h (a * 2 + 1) (.int .i64 x)).congr fun i hi => ?_
  unfold Go.Proofs.YtipgbbhgmoehfaaDoor.put
  by_cases e : i = a * 2 + 1
  · rw [if_pos e, if_neg (by omega), if_pos (by omega)]
  · rw [if_neg e]
    by_cases e2 : i % 2 = 0
    · rw [if_pos e2, if_pos e2]
    · rw [if_neg e2, if_neg e2, if_neg (by omega)]
theorem Row2.same {w w' : World} {g n : Nat} {f s : Nat → Nat} (h : Row2 w g n f s) (hk : w'.heap[g]? = w.heap[g]?) : Row2 w' g n f s := by
  obtain ⟨c, hc, r⟩ := h
  exact ⟨c, hk.trans hc, r⟩
theorem Row2.only {w w' : World} {g n : Nat} {f s : Nat → Nat} {gs : List Nat} (h : Row2 w g n f s) (ho : Only gs w w') (hg : g ∉ gs) : Row2 w' g n f s := h.same (ho.block g h.lt hg)
theorem Row2.congr {w : World} {g n : Nat} {f s f' s' : Nat → Nat} (h : Row2 w g n f s) (e : ∀ i, i < n → f i = f' i ∧ s i = s' i) : Row2 w g n f' s' := RowGe.congr h fun i hi => by
  obtain ⟨e1, e2⟩ := e (i / 2) (by omega)
  rw [e1, e2]

set_option maxRecDepth 100000 in
set_option maxHeartbeats 2000000 in
theorem ufind_any (G n c a : Nat) (up rt d s : Nat → Nat) (w : World) (hU : Row2 w G n up s) (hF : Forest n up rt d) (ha : a < n) :
    Calls Tryd.prog 13 #[.slice (some ⟨G, 0, none⟩) n c, .int .i64 a] w fun e w' => e = .returned (.int .i64 (rt a)) ∧ ∃ up', Forest n up' rt d ∧ Row2 w' G n up' s ∧ Only [G] w w' := by
  have HU := Lib.hid hU
  have HFF := Lib.hid hF
  clear hU hF
  go_enter Tryd.func13, Tryd.ntmps13
  go_wp2_with fail
  go_loopg [1] (d a) (fun k v wr => ∃ (b : Nat) (up' : Nat → Nat), v = .int .i64 b ∧ b < n ∧ Hid (d b = k) ∧ Hid (rt b = rt a) ∧ Hid (Forest n up' rt d) ∧ Hid (Row2 wr G n up' s) ∧ Hid (Only [G] w wr))
  case atStart => exact ⟨a, up, rfl, ha, Lib.hid rfl, Lib.hid rfl, HFF, HU, Lib.hid (Only.refl _ _)⟩
  case round =>
    obtain ⟨b, up', rfl, hb, hk, hr, hf, hw, ho⟩ := hrel
    clear HU HFF
    have c1 := hw.out.c0 hb
    have b2 := hf.out.lt b hb
    have b3 := hf.out.lt _ b2
    have z1 := hw.out.frozen (b * 2)
    by_cases he : up' b = b
    · have HE := Lib.hid he
      have q : ((b : Int) != (b : Int)) = false := by simp
      rw [he] at c1
      clear he b2 b3
      go_wp2_with fail
      go_ret
      exact ⟨by rw [← hr.out, hf.out.fix b hb HE.out]; rfl, up', hf.out, hw.out, ho.out⟩
    · have c2 := hw.out.c0 b2
      have q : ((up' b : Int) != (b : Int)) = true := by simp; omega
      have hdd : Hid (d (up' (up' b)) < d b) := Lib.hid (by
        have h1 := hf.out.dec b hb he
        by_cases e2 : up' (up' b) = up' b
        · rw [e2]; exact h1
        · exact Nat.lt_trans (hf.out.dec _ b2 e2) h1)
      have HF2 := Lib.hid (hf.out.halve hb he)
      have HR2 := Lib.hid (hw.out.put0 b (up' (up' b)))
      have HO2 := Lib.hid (ho.out.setCell (g := G) (i := b * 2) (by simp) (.int .i64 (up' (up' b) : Nat)))
      have hru : Hid (rt (up' (up' b)) = rt a) := Lib.hid (by rw [hf.out.ru _ b2, hf.out.ru _ hb, hr.out])
      obtain ⟨p, hp⟩ : ∃ p, up' b = p := ⟨_, rfl⟩
      obtain ⟨t, ht⟩ : ∃ t, up' p = t := ⟨_, rfl⟩
      rw [hp] at c1 c2 b2 b3 q hdd HF2 HR2 HO2 hru
      rw [ht] at c2 b3 hdd HF2 HR2 HO2 hru
      clear hp ht he
      go_wp2_with fail
      go_region
      go_wp2_with fail
      go_roundg (d t)
      case measure => have := hdd.out; have := hk.out; omega
      case rel => exact ⟨t, _, rfl, b3, Lib.hid rfl, hru, HF2, Lib.hid (HR2.out.same rfl), Lib.hid (HO2.out.drewN 1)⟩

end Go.Proofs.YtipgbbhgmoehfaaDoor
