/-
  Disjoint sets: forests (plain), rows of integers, the root of an element.
-/
import Derived.Test.YtbafacdknaopjaaA2
import Derived.LaidEqlPtr
import Derived.Deep.LoopGhost
import Derived.Deep.OwnRows
namespace Go.Proofs.Ytbafacdknaopjaa
open Go.RowKit
set_option linter.unusedSimpArgs false

/-- A forest of n elements: the element above each, its root, and a number that grows downwards. -/
structure Forest (n : Nat) (up rt d : Nat → Nat) : Prop where
  lt : ∀ a, a < n → up a < n
  rlt : ∀ a, a < n → rt a < n
  rr : ∀ a, a < n → up (rt a) = rt a
  ru : ∀ a, a < n → rt (up a) = rt a
  fix : ∀ a, a < n → up a = a → rt a = a
  dec : ∀ a, a < n → up a ≠ a → d (up a) < d a
def put (f : Nat → Nat) (a x : Nat) : Nat → Nat := fun i => if i = a then x else f i
theorem put_same (f : Nat → Nat) (a x : Nat) : put f a x a = x := if_pos rfl
theorem put_other (f : Nat → Nat) {a i : Nat} (x : Nat) (h : i ≠ a) : put f a x i = f i := if_neg h
theorem Forest.halve {n : Nat} {up rt d : Nat → Nat} (h : Forest n up rt d) {a : Nat} (ha : a < n) (hu : up a ≠ a) : Forest n (put up a (up (up a))) rt d := by
  have h1 := h.lt a ha
  have h2 := h.lt (up a) h1
  have hd := h.dec a ha hu
  have hdd : d (up (up a)) ≤ d (up a) := by
    by_cases e : up (up a) = up a
    · rw [e]; exact Nat.le_refl _
    · exact Nat.le_of_lt (h.dec (up a) h1 e)
  refine ⟨fun b hb => ?_, h.rlt, fun b hb => ?_, fun b hb => ?_, fun b hb hf => ?_, fun b hb hf => ?_⟩
  · unfold put; split
    · exact h2
    · exact h.lt b hb
  · by_cases e : rt b = a
    · exact absurd (e ▸ h.rr b hb) hu
    · rw [put_other _ _ e]; exact h.rr b hb
  · by_cases e : b = a
    · subst e; rw [put_same, h.ru _ h1, h.ru _ ha]
    · rw [put_other _ _ e]; exact h.ru b hb
  · by_cases e : b = a
    · subst e
      rw [put_same] at hf
      rw [hf] at hdd
      omega
    · rw [put_other _ _ e] at hf; exact h.fix b hb hf
  · by_cases e : b = a
    · subst e; rw [put_same]; omega
    · rw [put_other _ _ e] at hf ⊢; exact h.dec b hb hf
theorem Forest.own {n : Nat} (d : Nat → Nat) : Forest n id id d :=
  ⟨fun _ h => h, fun _ h => h, fun _ _ => rfl, fun _ _ => rfl, fun _ _ _ => rfl, fun _ _ h => absurd rfl h⟩
theorem Forest.rrt {n : Nat} {up rt d : Nat → Nat} (h : Forest n up rt d) {a : Nat} (ha : a < n) : rt (rt a) = rt a := h.fix (rt a) (h.rlt a ha) (h.rr a ha)
/-- Union: the root y goes below the root x. -/
theorem Forest.unite {n : Nat} {up rt d : Nat → Nat} (h : Forest n up rt d) {x y : Nat} (hx : x < n) (hy : y < n) (rx : rt x = x) (ry : rt y = y) (hne : x ≠ y) :
    Forest n (put up y x) (fun a => if rt a = y then x else rt a) (fun a => if rt a = y then d a + d x + 1 else d a) := by
  have hux : up x = x := by have := h.rr x hx; rwa [rx] at this
  have huy : up y = y := by have := h.rr y hy; rwa [ry] at this
  have hxy : ¬ rt x = y := by rw [rx]; exact hne
  refine ⟨fun b hb => ?_, fun b hb => ?_, fun b hb => ?_, fun b hb => ?_, fun b hb hf => ?_, fun b hb hf => ?_⟩
  · unfold put; split
    · exact hx
    · exact h.lt b hb
  · split
    · exact hx
    · exact h.rlt b hb
  · split
    · rw [put_other _ _ hne]; exact hux
    · rename_i e; rw [put_other _ _ e]; exact h.rr b hb
  · by_cases e : b = y
    · subst e; rw [put_same, if_neg hxy, if_pos ry, rx]
    · rw [put_other _ _ e, h.ru b hb]
  · by_cases e : b = y
    · subst e; rw [put_same] at hf; exact absurd hf hne
    · rw [put_other _ _ e] at hf
      have := h.fix b hb hf
      rw [this, if_neg e]
  · by_cases e : b = y
    · subst e; rw [put_same, if_neg hxy, if_pos ry]; omega
    · rw [put_other _ _ e] at hf ⊢
      rw [h.ru b hb]
      have := h.dec b hb hf
      split <;> omega

theorem cell_lt' {w : World} {a : Addr} {v : Value} (h : w.cell? a = some v) : a.block < w.heap.size := by
  unfold World.cell? at h
  by_cases hb : a.block < w.heap.size
  · exact hb
  · rw [Array.getElem?_eq_none (by omega)] at h
    simp at h
/-- A block holds these n values, and may be longer. -/
def RowGe (w : World) (g : Nat) (t : TypeId) (n : Nat) (v : Nat → Value) : Prop := ∃ c : Array Value, w.heap[g]? = some (.cells c t (0, 0)) ∧ ∀ i, i < n → c[i]? = some (v i)
theorem RowGe.congr {w : World} {g : Nat} {t : TypeId} {n : Nat} {v u : Nat → Value} (h : RowGe w g t n v) (e : ∀ i, i < n → v i = u i) : RowGe w g t n u := by
  obtain ⟨c, hc, r⟩ := h
  exact ⟨c, hc, fun i hi => by rw [r i hi, e i hi]⟩
theorem RowGe.set {w : World} {g : Nat} {t : TypeId} {n : Nat} {v : Nat → Value} (h : RowGe w g t n v) (i : Nat) (x : Value) : RowGe (w.setCell ⟨g, i, none⟩ x) g t n (fun j => if j = i then x else v j) := by
  obtain ⟨c, hc, r⟩ := h
  refine ⟨c.setIfInBounds i x, by simp [World.setCell, Array.getElem?_modify, hc], fun j hj => ?_⟩
  have hs : j < c.size := (Array.getElem?_eq_some_iff.1 (r j hj)).1
  by_cases e : j = i
  · subst e; simp [hs]
  · show _ = some (if j = i then x else v j)
    rw [if_neg e, Array.getElem?_setIfInBounds_ne (fun h => e h.symm)]; exact r j hj
/-- A row of numbers. -/
def Row (w : World) (g n : Nat) (f : Nat → Nat) : Prop := RowGe w g 3 n (fun i => .int .i64 (f i))
theorem Row.cell {w : World} {g n : Nat} {f : Nat → Nat} (h : Row w g n f) {i : Nat} (hi : i < n) : w.cell? ⟨g, i, none⟩ = some (.int .i64 (f i)) := by
  obtain ⟨c, hc, r⟩ := h
  exact cell_of_heap hc (r i hi)
theorem Row.frozen {w : World} {g n : Nat} {f : Nat → Nat} (h : Row w g n f) (i : Nat) : w.frozen? ⟨g, i, none⟩ = false := by
  obtain ⟨c, hc, r⟩ := h
  exact frozen_of_heap hc
theorem Row.heap {w : World} {g n : Nat} {f : Nat → Nat} (h : Row w g n f) : ∃ cs, w.heap[g]? = some (.cells cs 3 (0, 0)) := let ⟨c, hc, _⟩ := h; ⟨c, hc⟩
theorem Row.lt {w : World} {g n : Nat} {f : Nat → Nat} (h : Row w g n f) : g < w.heap.size := let ⟨_, hc⟩ := h.heap; heap_lt hc
theorem Row.put {w : World} {g n : Nat} {f : Nat → Nat} (h : Row w g n f) (i x : Nat) : Row (w.setCell ⟨g, i, none⟩ (.int .i64 x)) g n (put f i x) := by
  refine (RowGe.set h i (.int .i64 x)).congr fun j hj => ?_
  unfold Go.Proofs.Ytbafacdknaopjaa.put
  split <;> rfl
theorem Row.same {w w' : World} {g n : Nat} {f : Nat → Nat} (h : Row w g n f) (hk : w'.heap[g]? = w.heap[g]?) : Row w' g n f := by
  obtain ⟨c, hc, r⟩ := h
  exact ⟨c, hk.trans hc, r⟩
theorem Row.only {w w' : World} {g n : Nat} {f : Nat → Nat} {gs : List Nat} (h : Row w g n f) (ho : Only gs w w') (hg : g ∉ gs) : Row w' g n f := h.same (ho.block g h.lt hg)

/-- The cells of a partition. -/
def setsCells (S U L Z n cu cl cz cnt : Nat) : Array Value := #[.pointer (some ⟨S, 0, none⟩), .slice (some ⟨U, 0, none⟩) n cu, .slice (some ⟨L, 0, none⟩) n cl, .slice (some ⟨Z, 0, none⟩) n cz, .int .i64 cnt]

set_option maxRecDepth 100000 in
set_option maxHeartbeats 2000000 in
theorem root_any (S U n cu a : Nat) (up rt d : Nat → Nat) (w : World) (hS : w.cell? ⟨S, 1, none⟩ = some (.slice (some ⟨U, 0, none⟩) n cu)) (hSU : S ≠ U) (hU : Row w U n up) (hF : Forest n up rt d) (ha : a < n) :
    Calls Try.prog 127 #[.pointer (some ⟨S, 0, none⟩), .int .i64 a] w fun e w' => e = .returned (.int .i64 (rt a)) ∧ ∃ up', Forest n up' rt d ∧ Row w' U n up' ∧ Only [U] w w' := by
  go_enter Try.func127, Try.ntmps127
  go_wp2_with fail
  go_step3
  go_wp2_with fail
  go_step3
  go_wp2_with fail
  go_loopg [1] (d a) (fun k v wr => ∃ (b : Nat) (up' : Nat → Nat), v = .int .i64 b ∧ b < n ∧ Hid (d b = k) ∧ Hid (rt b = rt a) ∧ Hid (Forest n up' rt d) ∧ Hid (Row wr U n up') ∧ Hid (Only [U] w wr))
  case atStart => exact ⟨a, up, rfl, ha, Lib.hid rfl, Lib.hid rfl, Lib.hid hF, Lib.hid hU, Lib.hid (Only.refl _ _)⟩
  case round =>
    obtain ⟨b, up', rfl, hb, hk, hr, hf, hw, ho⟩ := hrel
    have s1 : wr.cell? ⟨S, 1, none⟩ = some (.slice (some ⟨U, 0, none⟩) n cu) := by
      rw [World.cell?_of_block (w := w) (ho.out.block S (cell_lt' hS) (by simpa using hSU))]; exact hS
    have HS := Lib.hid hS
    have HU := Lib.hid hU
    have HFF := Lib.hid hF
    clear hS hU hF
    have c1 := hw.out.cell hb
    have b2 := hf.out.lt b hb
    have b3 := hf.out.lt _ b2
    have z1 := hw.out.frozen b
    by_cases he : up' b = b
    · have HE := Lib.hid he
      rw [he] at c1
      clear he b2 b3
      go_wp2_with fail
      rw [Exit.noGoto_ret]
      go_ret
      exact ⟨by rw [← hr.out, hf.out.fix b hb HE.out]; rfl, up', hf.out, hw.out, ho.out⟩
    · have c2 := hw.out.cell b2
      have q : ((up' b : Int) == (b : Int)) = false := by simp; omega
      have HN := Lib.hid he
      have hdd : Hid (d (up' (up' b)) < d b) := Lib.hid (by
        have h1 := hf.out.dec b hb he
        by_cases e2 : up' (up' b) = up' b
        · rw [e2]; exact h1
        · exact Nat.lt_trans (hf.out.dec _ b2 e2) h1)
      have HF2 := Lib.hid (hf.out.halve hb he)
      have HR2 := Lib.hid (hw.out.put b (up' (up' b)))
      have HO2 := Lib.hid (ho.out.setCell (g := U) (i := b) (by simp) (.int .i64 (up' (up' b) : Nat)))
      have hru : Hid (rt (up' (up' b)) = rt a) := Lib.hid (by rw [hf.out.ru _ b2, hf.out.ru _ hb, hr.out])
      obtain ⟨p, hp⟩ : ∃ p, up' b = p := ⟨_, rfl⟩
      obtain ⟨t, ht⟩ : ∃ t, up' p = t := ⟨_, rfl⟩
      rw [hp] at c1 c2 b2 b3 q hdd HF2 HR2 HO2 hru
      rw [ht] at c2 b3 hdd HF2 HR2 HO2 hru
      have hSU2 : U ≠ S := fun e => hSU e.symm
      clear hp ht he
      go_wp2_with fail
      go_region
      go_wp2_with fail
      go_roundg (d t)
      case measure => have := hdd.out; have := hk.out; omega
      case rel => exact ⟨t, _, rfl, b3, Lib.hid rfl, hru, HF2, Lib.hid (HR2.out.same rfl), Lib.hid (HO2.out.drewN 1)⟩
end Go.Proofs.Ytbafacdknaopjaa
