import Derived.LaidEqlPtr
import Derived.Deep.LoopGhost
import Derived.Deep.OwnRows
import Derived.BigQuiet
import Derived.Deep.RegionWith
import Derived.RegionTactic
import Derived.Test.YtipgbbhgmoehfaaYA
/-
  Disjoint sets: forests (plain), rows of integers, the root of an element.
-/
namespace Go.Proofs.Ytipgbbhgmoehfaa
open Go.RowKit
set_option linter.unusedSimpArgs false

/-- A forest of n elements: the element above each, its root, and a number that grows downwards. -/
structure Forest (n : Nat) (up rt d : Nat → Nat) : Prop where
  lt : ∀ a, a < n → up a < n
  rlt : ∀ a, a < n → rt a < n
  rr : ∀ a, a < n → up (rt a) = rt a
  ru : ∀ a, a < n → rt (up a) = rt a
  fix : ∀ a, a < n → up a = a → rt a = a
  dec : ∀ a, a < n → up a ≠ a → d (up a) < d a
def put (f : Nat → Nat) (a x : Nat) : Nat → Nat := fun i => if i = a then x else f i
theorem put_same (f : Nat → Nat) (a x : Nat) : put f a x a = x := if_pos rfl
theorem put_other (f : Nat → Nat) {a i : Nat} (x : Nat) (h : i ≠ a) : put f a x i = f i := if_neg h
theorem Forest.halve {n : Nat} {up rt d : Nat → Nat} (h : Forest n up rt d) {a : Nat} (ha : a < n) (hu : up a ≠ a) : Forest n (put up a (up (up a))) rt d := by
  have h1 := h.lt a ha
  have h2 := h.lt (up a) h1
  have hd := h.dec a ha hu
  have hdd : d (up (up a)) ≤ d (up a) := by
    by_cases e : up (up a) = up a
    · rw [e]; exact Nat.le_refl _
    · exact Nat.le_of_lt (h.dec (up a) h1 e)
  refine ⟨fun b hb => ?_, h.rlt, fun b hb => ?_, fun b hb => ?_, fun b hb hf => ?_, fun b hb hf => ?_⟩
  · unfold put; split
    · exact h2
    · exact h.lt b hb
  · by_cases e : rt b = a
    · exact absurd (e ▸ h.rr b hb) hu
    · rw [put_other _ _ e]; exact h.rr b hb
  · by_cases e : b = a
    · subst e; rw [put_same, h.ru _ h1, h.ru _ ha]
    · rw [put_other _ _ e]; exact h.ru b hb
  · by_cases e : b = a
    · subst e
      rw [put_same] at hf
      rw [hf] at hdd
      omega
    · rw [put_other _ _ e] at hf; exact h.fix b hb hf
  · by_cases e : b = a
    · subst e; rw [put_same]; omega
    · rw [put_other _ _ e] at hf ⊢; exact h.dec b hb hf
theorem Forest.own {n : Nat} (d : Nat → Nat) : Forest n id id d :=
  ⟨fun _ h => h, fun _ h => h, fun _ _ => rfl, fun _ _ => rfl, fun _ _ _ => rfl, fun _ _ h => absurd rfl h⟩
theorem Forest.rrt {n : Nat} {up rt d : Nat → Nat} (h : Forest n up rt d) {a : Nat} (ha : a < n) : rt (rt a) = rt a := h.fix (rt a) (h.rlt a ha) (h.rr a ha)
/-- Union: the root y goes below the root x. -/
theorem Forest.unite {n : Nat} {up rt d : Nat → Nat} (h : Forest n up rt d) {x y : Nat} (hx : x < n) (hy : y < n) (rx : rt x = x) (ry : rt y = y) (hne : x ≠ y) :
    Forest n (put up y x) (fun a => if rt a = y then x else rt a) (fun a => if rt a = y then d a + d x + 1 else d a) := by
  have hux : up x = x := by have := h.rr x hx; rwa [rx] at this
  have huy : up y = y := by have := h.rr y hy; rwa [ry] at this
  have hxy : ¬ rt x = y := by rw [rx]; exact hne
  refine ⟨fun b hb => ?_, fun b hb => ?_, fun b hb => ?_, fun b hb => ?_, fun b hb hf => ?_, fun b hb hf => ?_⟩
  · unfold put; split
    · exact hx
    · exact h.lt b hb
  · split
    · exact hx
    · exact h.rlt b hb
  · split
    · rw [put_other _ _ hne]; exact hux
    · rename_i e; rw [put_other _ _ e]; exact h.rr b hb
  · by_cases e : b = y
    · subst e; rw [put_same, if_neg hxy, if_pos ry, rx]
    · rw [put_other _ _ e, h.ru b hb]
  · by_cases e : b = y
    · subst e; rw [put_same] at hf; exact absurd hf hne
    · rw [put_other _ _ e] at hf
      have := h.fix b hb hf
      rw [this, if_neg e]
  · by_cases e : b = y
    · subst e; rw [put_same, if_neg hxy, if_pos ry]; omega
    · rw [put_other _ _ e] at hf ⊢
      rw [h.ru b hb]
      have := h.dec b hb hf
      split <;> omega

theorem cell_lt' {w : World} {a : Addr} {v : Value} (h : w.cell? a = some v) : a.block < w.heap.size := by
  unfold World.cell? at h
  by_cases hb : a.block < w.heap.size
  · exact hb
  · rw [Array.getElem?_eq_none (by omega)] at h
    simp at h
/-- A block holds these n values, and may be longer. -/
def RowGe (w : World) (g : Nat) (t : TypeId) (n : Nat) (v : Nat → Value) : Prop := ∃ c : Array Value, w.heap[g]? = some (.cells c t (0, 0)) ∧ ∀ i, i < n → c[i]? = some (v i)
theorem RowGe.congr {w : World} {g : Nat} {t : TypeId} {n : Nat} {v u : Nat → Value} (h : RowGe w g t n v) (e : ∀ i, i < n → v i = u i) : RowGe w g t n u := by
  obtain ⟨c, hc, r⟩ := h
  exact ⟨c, hc, fun i hi => by rw [r i hi, e i hi]⟩
theorem RowGe.set {w : World} {g : Nat} {t : TypeId} {n : Nat} {v : Nat → Value} (h : RowGe w g t n v) (i : Nat) (x : Value) : RowGe (w.setCell ⟨g, i, none⟩ x) g t n (fun j => if j = i then x else v j) := by
  obtain ⟨c, hc, r⟩ := h
  refine ⟨c.setIfInBounds i x, by simp [World.setCell, Array.getElem?_modify, hc], fun j hj => ?_⟩
  have hs : j < c.size := (Array.getElem?_eq_some_iff.1 (r j hj)).1
  by_cases e : j = i
  · subst e; simp [hs]
  · show _ = some (if j = i then x else v j)
    rw [if_neg e, Array.getElem?_setIfInBounds_ne (fun h => e h.symm)]; exact r j hj
/-- A row of numbers. -/
def Row (w : World) (g n : Nat) (f : Nat → Nat) : Prop := RowGe w g 3 n (fun i => .int .i64 (f i))
theorem Row.cell {w : World} {g n : Nat} {f : Nat → Nat} (h : Row w g n f) {i : Nat} (hi : i < n) : w.cell? ⟨g, i, none⟩ = some (.int .i64 (f i)) := by
  obtain ⟨c, hc, r⟩ := h
  exact cell_of_heap hc (r i hi)
theorem Row.frozen {w : World} {g n : Nat} {f : Nat → Nat} (h : Row w g n f) (i : Nat) : w.frozen? ⟨g, i, none⟩ = false := by
  obtain ⟨c, hc, r⟩ := h
  exact frozen_of_heap hc
theorem Row.heap {w : World} {g n : Nat} {f : Nat → Nat} (h : Row w g n f) : ∃ cs, w.heap[g]? = some (.cells cs 3 (0, 0)) := let ⟨c, hc, _⟩ := h; ⟨c, hc⟩
theorem Row.lt {w : World} {g n : Nat} {f : Nat → Nat} (h : Row w g n f) : g < w.heap.size := let ⟨_, hc⟩ := h.heap; heap_lt hc
theorem Row.put {w : World} {g n : Nat} {f : Nat → Nat} (h : Row w g n f) (i x : Nat) : Row (w.setCell ⟨g, i, none⟩ (.int .i64 x)) g n (put f i x) := by
  refine (RowGe.set h i (.int .i64 x)).congr fun j hj => ?_
  unfold Go.Proofs.Ytipgbbhgmoehfaa.put
  split <;> rfl
theorem Row.same {w w' : World} {g n : Nat} {f : Nat → Nat} (h : Row w g n f) (hk : w'.heap[g]? = w.heap[g]?) : Row w' g n f := by
  obtain ⟨c, hc, r⟩ := h
  exact ⟨c, hk.trans hc, r⟩
theorem Row.only {w w' : World} {g n : Nat} {f : Nat → Nat} {gs : List Nat} (h : Row w g n f) (ho : Only gs w w') (hg : g ∉ gs) : Row w' g n f := h.same (ho.block g h.lt hg)

/-- The cells of a partition. -/
def setsCells (S U L Z n cu cl cz cnt : Nat) : Array Value := #[.pointer (some ⟨S, 0, none⟩), .slice (some ⟨U, 0, none⟩) n cu, .slice (some ⟨L, 0, none⟩) n cl, .slice (some ⟨Z, 0, none⟩) n cz, .int .i64 cnt]

set_option maxRecDepth 100000 in
set_option maxHeartbeats 2000000 in
theorem root_any (S U n cu a : Nat) (up rt d : Nat → Nat) (w : World) (hS : w.cell? ⟨S, 1, none⟩ = some (.slice (some ⟨U, 0, none⟩) n cu)) (hSU : S ≠ U) (hU : Row w U n up) (hF : Forest n up rt d) (ha : a < n) :
    Calls Try.prog 99 #[.pointer (some ⟨S, 0, none⟩), .int .i64 a] w fun e w' => e = .returned (.int .i64 (rt a)) ∧ ∃ up', Forest n up' rt d ∧ Row w' U n up' ∧ Only [U] w w' := by
  go_enter Try.func99, Try.ntmps99
  go_wp2_with fail
  go_step3
  go_wp2_with fail
  go_step3
  go_wp2_with fail
  go_loopg [1] (d a) (fun k v wr => ∃ (b : Nat) (up' : Nat → Nat), v = .int .i64 b ∧ b < n ∧ Hid (d b = k) ∧ Hid (rt b = rt a) ∧ Hid (Forest n up' rt d) ∧ Hid (Row wr U n up') ∧ Hid (Only [U] w wr))
  case atStart => exact ⟨a, up, rfl, ha, Lib.hid rfl, Lib.hid rfl, Lib.hid hF, Lib.hid hU, Lib.hid (Only.refl _ _)⟩
  case round =>
    obtain ⟨b, up', rfl, hb, hk, hr, hf, hw, ho⟩ := hrel
    have s1 : wr.cell? ⟨S, 1, none⟩ = some (.slice (some ⟨U, 0, none⟩) n cu) := by
      rw [World.cell?_of_block (w := w) (ho.out.block S (cell_lt' hS) (by simpa using hSU))]; exact hS
    have HS := Lib.hid hS
    have HU := Lib.hid hU
    have HFF := Lib.hid hF
    clear hS hU hF
    have c1 := hw.out.cell hb
    have b2 := hf.out.lt b hb
    have b3 := hf.out.lt _ b2
    have z1 := hw.out.frozen b
    by_cases he : up' b = b
    · have HE := Lib.hid he
      rw [he] at c1
      clear he b2 b3
      go_wp2_with fail
      rw [Exit.noGoto_ret]
      go_ret
      exact ⟨by rw [← hr.out, hf.out.fix b hb HE.out]; rfl, up', hf.out, hw.out, ho.out⟩
    · have c2 := hw.out.cell b2
      have q : ((up' b : Int) == (b : Int)) = false := by simp; omega
      have HN := Lib.hid he
      have hdd : Hid (d (up' (up' b)) < d b) := Lib.hid (by
        have h1 := hf.out.dec b hb he
        by_cases e2 : up' (up' b) = up' b
        · rw [e2]; exact h1
        · exact Nat.lt_trans (hf.out.dec _ b2 e2) h1)
      have HF2 := Lib.hid (hf.out.halve hb he)
      have HR2 := Lib.hid (hw.out.put b (up' (up' b)))
      have HO2 := Lib.hid (ho.out.setCell (g := U) (i := b) (by simp) (.int .i64 (up' (up' b) : Nat)))
      have hru : Hid (rt (up' (up' b)) = rt a) := Lib.hid (by rw [hf.out.ru _ b2, hf.out.ru _ hb, hr.out])
      obtain ⟨p, hp⟩ : ∃ p, up' b = p := ⟨_, rfl⟩
      obtain ⟨t, ht⟩ : ∃ t, up' p = t := ⟨_, rfl⟩
      rw [hp] at c1 c2 b2 b3 q hdd HF2 HR2 HO2 hru
      rw [ht] at c2 b3 hdd HF2 HR2 HO2 hru
      have hSU2 : U ≠ S := fun e => hSU e.symm
      clear hp ht he
      go_wp2_with fail
      go_region
      go_wp2_with fail
      go_roundg (d t)
      case measure => have := hdd.out; have := hk.out; omega
      case rel => exact ⟨t, _, rfl, b3, Lib.hid rfl, hru, HF2, Lib.hid (HR2.out.same rfl), Lib.hid (HO2.out.drewN 1)⟩

end Go.Proofs.Ytipgbbhgmoehfaa

/-
  Disjoint sets as they lie in memory; Least, Count.
-/
namespace Go.Proofs.Ytipgbbhgmoehfaa
open Go.RowKit
set_option linter.unusedSimpArgs false

/-- How many of the first n numbers are p. -/
def many (n : Nat) (p : Nat → Bool) : Nat := (List.range n).countP p
theorem many_le (n : Nat) (p : Nat → Bool) : many n p ≤ n := by
  have := List.countP_le_length (p := p) (l := List.range n)
  simpa [many] using this

/-- Disjoint sets of n elements lie in these blocks; lab: the least element of each one's set. -/
structure Dsu (W : World) (S U L Z n : Nat) (lab : Nat → Nat) (up rt d least size : Nat → Nat) (cu cl cz : Nat) : Prop where
  head : W.heap[S]? = some (.cells (setsCells S U L Z n cu cl cz (many n fun a => lab a == a)) 172 (0, 0))
  rowU : Row W U n up
  rowL : Row W L n least
  rowZ : Row W Z n size
  ul : U ≠ L
  uz : U ≠ Z
  lz : L ≠ Z
  forest : Forest n up rt d
  bound : n ≤ 65536
  labE : ∀ a, a < n → lab a = least (rt a)
  leastE : ∀ a, a < n → least (rt a) < n ∧ rt (least (rt a)) = rt a
  lowE : ∀ a, a < n → lab a ≤ a
  sizeE : ∀ r, r < n → rt r = r → size r = many n fun a => rt a == r
def DsuAt (W : World) (F : List Nat) (S n : Nat) (lab : Nat → Nat) : Prop := ∃ U L Z up rt d least size cu cl cz, F = [S, U, L, Z] ∧ Dsu W S U L Z n lab up rt d least size cu cl cz
theorem Dsu.suz {W : World} {S U L Z n : Nat} {lab up rt d least size : Nat → Nat} {cu cl cz : Nat} (h : Dsu W S U L Z n lab up rt d least size cu cl cz) : S ≠ U ∧ S ≠ L ∧ S ≠ Z := by
  have e : ∀ g f, Row W g n f → S ≠ g := fun g f hr hg => by
    subst hg
    obtain ⟨cs, hc⟩ := hr.heap
    rw [h.head] at hc
    cases hc
  exact ⟨e _ _ h.rowU, e _ _ h.rowL, e _ _ h.rowZ⟩
theorem Dsu.same {W W' : World} {S U L Z n : Nat} {lab up rt d least size : Nat → Nat} {cu cl cz : Nat} (h : Dsu W S U L Z n lab up rt d least size cu cl cz) (hk : ∀ k, k ∈ [S, U, L, Z] → W'.heap[k]? = W.heap[k]?) :
    Dsu W' S U L Z n lab up rt d least size cu cl cz :=
  ⟨(hk S (by simp)).trans h.head, h.rowU.same (hk U (by simp)), h.rowL.same (hk L (by simp)), h.rowZ.same (hk Z (by simp)), h.ul, h.uz, h.lz, h.forest, h.bound, h.labE, h.leastE, h.lowE, h.sizeE⟩
theorem DsuAt.same {W W' : World} {F : List Nat} {S n : Nat} {lab : Nat → Nat} (h : DsuAt W F S n lab) (hk : ∀ k, k ∈ F → W'.heap[k]? = W.heap[k]?) : DsuAt W' F S n lab := by
  obtain ⟨U, L, Z, up, rt, d, least, size, cu, cl, cz, rfl, h⟩ := h
  exact ⟨U, L, Z, up, rt, d, least, size, cu, cl, cz, rfl, h.same hk⟩
theorem Dsu.flt {W : World} {S U L Z n : Nat} {lab up rt d least size : Nat → Nat} {cu cl cz : Nat} (h : Dsu W S U L Z n lab up rt d least size cu cl cz) : ∀ k, k ∈ [S, U, L, Z] → k < W.heap.size := by
  intro k hk
  simp only [List.mem_cons, List.not_mem_nil, or_false] at hk
  rcases hk with rfl | rfl | rfl | rfl
  · exact heap_lt h.head
  · exact h.rowU.lt
  · exact h.rowL.lt
  · exact h.rowZ.lt
theorem DsuAt.lt {W : World} {F : List Nat} {S n : Nat} {lab : Nat → Nat} (h : DsuAt W F S n lab) : ∀ k, k ∈ F → k < W.heap.size := by
  obtain ⟨U, L, Z, up, rt, d, least, size, cu, cl, cz, rfl, h⟩ := h
  exact h.flt
theorem DsuAt.only {W W' : World} {F gs : List Nat} {S n : Nat} {lab : Nat → Nat} (h : DsuAt W F S n lab) (ho : Only gs W W') (hd : ∀ k, k ∈ F → k ∉ gs) : DsuAt W' F S n lab := h.same fun k hk => ho.block k (h.lt k hk) (hd k hk)
theorem DsuAt.bound {W : World} {F : List Nat} {S n : Nat} {lab : Nat → Nat} (h : DsuAt W F S n lab) : n ≤ 65536 := by
  obtain ⟨U, L, Z, up, rt, d, least, size, cu, cl, cz, rfl, h⟩ := h
  exact h.bound
theorem DsuAt.low {W : World} {F : List Nat} {S n : Nat} {lab : Nat → Nat} (h : DsuAt W F S n lab) {a : Nat} (ha : a < n) : lab a ≤ a := by
  obtain ⟨U, L, Z, up, rt, d, least, size, cu, cl, cz, rfl, h⟩ := h
  exact h.lowE a ha
theorem DsuAt.idem {W : World} {F : List Nat} {S n : Nat} {lab : Nat → Nat} (h : DsuAt W F S n lab) {a : Nat} (ha : a < n) : lab (lab a) = lab a := by
  obtain ⟨U, L, Z, up, rt, d, least, size, cu, cl, cz, rfl, h⟩ := h
  have h1 := h.labE a ha
  have h2 := h.leastE a ha
  rw [h1, h.labE _ h2.1, h2.2]

theorem sets_info : Try.prog.info? 172 = some ((Try.prog.info? 172).getD default) := by kernel_rfl

section
variable {W : World} {S U L Z n : Nat} {lab up rt d least size : Nat → Nat} {cu cl cz : Nat} (h : Dsu W S U L Z n lab up rt d least size cu cl cz)
include h
set_option maxRecDepth 100000 in
theorem svalid_any : Calls Try.prog 98 #[.pointer (some ⟨S, 0, none⟩)] W fun e w' => e = .returned (.bool true) ∧ W = w' := by
  have c0 := cell_of_heap (i := 0) h.head rfl
  replace c0 : W.cell? ⟨S, 0, none⟩ = some (.pointer (some ⟨S, 0, none⟩)) := c0
  clear h
  go_enter Try.func98, Try.ntmps98
  have he := fun W => run_eql_ptr_same (P := Try.prog) (w := W) (tp := 128) (te := 172) ⟨S, 0, none⟩ Try.underlying128 sets_info
  go_wp2
  go_ret
  exact ⟨rfl, rfl⟩
set_option maxRecDepth 100000 in
theorem has_any (a : Int) : Calls Try.prog 101 #[.pointer (some ⟨S, 0, none⟩), .int .i64 a] W fun e w' => e = .returned (.bool (decide (0 ≤ a ∧ a < n))) ∧ W = w' := by
  have c1 := cell_of_heap (i := 1) h.head rfl
  replace c1 : W.cell? ⟨S, 1, none⟩ = some (.slice (some ⟨U, 0, none⟩) n cu) := c1
  have CV := Lib.hid (svalid_any h)
  clear h
  by_cases h0 : 0 ≤ a
  · by_cases h1 : a < n
    · rw [decide_eq_true ⟨h0, h1⟩]
      go_enter Try.func101, Try.ntmps101
      go_wp2_with fail
      refine CV.out.mono ?_
      rintro e w' ⟨rfl, rfl⟩
      go_wp2_with fail
      go_ret
      exact ⟨rfl, rfl⟩
    · rw [decide_eq_false (fun h => h1 h.2)]
      have q1 : decide (a < (n : Int)) = false := decide_eq_false h1
      go_enter Try.func101, Try.ntmps101
      go_wp2_with fail
      refine CV.out.mono ?_
      rintro e w' ⟨rfl, rfl⟩
      go_wp2_with fail
      go_ret
      exact ⟨rfl, rfl⟩
  · rw [decide_eq_false (fun h => h0 h.1)]
    have q : decide (0 ≤ a) = false := decide_eq_false h0
    go_enter Try.func101, Try.ntmps101
    go_wp2_with fail
    refine CV.out.mono ?_
    rintro e w' ⟨rfl, rfl⟩
    go_wp2_with fail
    go_ret
    exact ⟨rfl, rfl⟩
theorem Dsu.c : W.cell? ⟨S, 1, none⟩ = some (.slice (some ⟨U, 0, none⟩) n cu) ∧ W.cell? ⟨S, 2, none⟩ = some (.slice (some ⟨L, 0, none⟩) n cl) ∧ W.cell? ⟨S, 3, none⟩ = some (.slice (some ⟨Z, 0, none⟩) n cz) ∧
    W.cell? ⟨S, 4, none⟩ = some (.int .i64 (many n fun a => lab a == a : Nat)) := ⟨cell_of_heap h.head rfl, cell_of_heap h.head rfl, cell_of_heap h.head rfl, cell_of_heap h.head rfl⟩
theorem root_dsu (a : Nat) (ha : a < n) : Calls Try.prog 99 #[.pointer (some ⟨S, 0, none⟩), .int .i64 a] W fun e w' => e = .returned (.int .i64 (rt a)) ∧ ∃ up', Dsu w' S U L Z n lab up' rt d least size cu cl cz ∧ Only [U] W w' := by
  obtain ⟨hSU, hSL, hSZ⟩ := h.suz
  refine (root_any S U n cu a up rt d W h.c.1 hSU h.rowU h.forest ha).mono ?_
  rintro e w' ⟨rfl, up', hF, hR, hO⟩
  exact ⟨rfl, up', ⟨(hO.block S (h.flt S (by simp)) (by simpa using hSU)).trans h.head, hR, h.rowL.only hO (by simpa using h.ul.symm), h.rowZ.only hO (by simpa using h.uz.symm), h.ul, h.uz, h.lz, hF, h.bound, h.labE, h.leastE, h.lowE, h.sizeE⟩, hO⟩

set_option maxRecDepth 100000 in
set_option maxHeartbeats 2000000 in
theorem Least_in (a : Nat) (ha : a < n) : Calls Try.prog 83 #[.pointer (some ⟨S, 0, none⟩), .int .i64 a] W fun e w' => e = .returned (.tuple #[.int .i64 (lab a), .int .i64 0]) ∧ ∃ up', Dsu w' S U L Z n lab up' rt d least size cu cl cz ∧ Only [U] W w' := by
  have c2 := h.c.2.1
  have CV := Lib.hid (svalid_any h)
  have CH := Lib.hid (has_any h (a : Int))
  rw [decide_eq_true (show 0 ≤ (a : Int) ∧ (a : Int) < n by omega)] at CH
  have hr := h.forest.rlt a ha
  have HL := Lib.hid (h.labE a ha)
  have CR := Lib.hid ((root_dsu (h.same (W' := W.drew) fun _ _ => rfl) a ha).mono (R' := fun e w' => e = .returned (.int .i64 (rt a)) ∧ w'.cell? ⟨S, 2, none⟩ = some (.slice (some ⟨L, 0, none⟩) n cl) ∧ w'.cell? ⟨L, rt a, none⟩ = some (.int .i64 (lab a)) ∧ Hid (∃ up', Dsu w' S U L Z n lab up' rt d least size cu cl cz ∧ Only [U] W w')) fun e w' ⟨he, up', hd, ho⟩ => ⟨he, hd.c.2.1, by rw [HL.out]; exact hd.rowL.cell hr, Lib.hid ⟨up', hd, ((Only.refl [U] W).drewN 1).trans ho⟩⟩)
  clear h
  go_enter Try.func83, Try.ntmps83
  go_wp2_with fail
  refine CV.out.mono ?_
  rintro e w' ⟨rfl, rfl⟩
  go_wp2_with fail
  refine CH.out.mono ?_
  rintro e w' ⟨rfl, rfl⟩
  go_wp2_with fail
  go_region_with (go_at_call 99; refine CR.out.mono ?_; rintro e w1 ⟨rfl, e4, e3, HP⟩)
  all_goals
    go_wp2_with fail
    go_ret2
    exact ⟨rfl, HP.out⟩
set_option maxRecDepth 100000 in
theorem Least_out (a : Int) (ha : ¬ (0 ≤ a ∧ a < n)) : Calls Try.prog 83 #[.pointer (some ⟨S, 0, none⟩), .int .i64 a] W fun e w' => e = .returned (.tuple #[.int .i64 0, .int .i64 3]) ∧ W = w' := by
  have CV := Lib.hid (svalid_any h)
  have CH := Lib.hid (has_any h a)
  rw [decide_eq_false ha] at CH
  clear h ha
  go_enter Try.func83, Try.ntmps83
  go_wp2_with fail
  refine CV.out.mono ?_
  rintro e w' ⟨rfl, rfl⟩
  go_wp2_with fail
  refine CH.out.mono ?_
  rintro e w' ⟨rfl, rfl⟩
  go_wp2_with fail
  go_ret2
  exact ⟨rfl, rfl⟩
set_option maxRecDepth 100000 in
theorem SCount_any : Calls Try.prog 86 #[.pointer (some ⟨S, 0, none⟩)] W fun e w' => e = .returned (.int .i64 (many n fun a => lab a == a : Nat)) ∧ W = w' := by
  have c4 := h.c.2.2.2
  have CV := Lib.hid (svalid_any h)
  clear h
  go_enter Try.func86, Try.ntmps86
  go_wp2_with fail
  refine CV.out.mono ?_
  rintro e w' ⟨rfl, rfl⟩
  go_wp2_with fail
  go_ret
  exact ⟨rfl, rfl⟩
end

end Go.Proofs.Ytipgbbhgmoehfaa

/-
  What a union makes of labels (plain).
-/
namespace Go.Proofs.Ytipgbbhgmoehfaa

theorem many_succ (n : Nat) (p : Nat → Bool) : many (n + 1) p = many n p + if p n then 1 else 0 := by
  unfold many
  rw [List.range_succ, List.countP_append]
  simp only [List.countP_cons, List.countP_nil, Nat.zero_add]
theorem many_congr {n : Nat} {p q : Nat → Bool} (h : ∀ a, a < n → p a = q a) : many n p = many n q := by
  induction n with
  | zero => rfl
  | succ n ih => rw [many_succ, many_succ, ih fun a ha => h a (by omega), h n (by omega)]
theorem many_add {n : Nat} {p q r : Nat → Bool} (h : ∀ a, a < n → (if p a then 1 else 0) + (if q a then 1 else 0) = if r a then (1 : Nat) else 0) : many n p + many n q = many n r := by
  induction n with
  | zero => rfl
  | succ n ih =>
    rw [many_succ, many_succ, many_succ]
    have := ih fun a ha => h a (by omega)
    have := h n (by omega)
    omega
theorem many_one {n M : Nat} (hM : M < n) : many n (fun a => a == M) = 1 := by
  induction n with
  | zero => omega
  | succ n ih =>
    rw [many_succ]
    by_cases h : M < n
    · rw [ih h, if_neg (by simp; omega)]
    · obtain rfl : M = n := by omega
      rw [if_pos (by simp)]
      have : many M (fun a => a == M) = 0 := by
        unfold many
        rw [List.countP_eq_zero]
        intro a ha
        have := List.mem_range.1 ha
        simp; omega
      omega

/-- The labels after the sets of two labels are one. -/
def mer (lab : Nat → Nat) (x y : Nat) : Nat → Nat := fun c => if lab c = x ∨ lab c = y then min x y else lab c
theorem mer_comm (lab : Nat → Nat) (x y : Nat) : mer lab x y = mer lab y x := by
  funext c
  unfold mer
  by_cases h : lab c = x ∨ lab c = y
  · rw [if_pos h, if_pos (Or.comm.1 h), Nat.min_comm]
  · rw [if_neg h, if_neg (fun e => h (Or.comm.1 e))]

theorem key_nat (A a p q : Nat) (hpq : p ≠ q) (h1 : a = p → A = p) (h2 : a = q → A = q) :
    (if ((if A = p ∨ A = q then min p q else A) == a) then 1 else 0) + (if (a == max p q) then 1 else 0) = if (A == a) then (1 : Nat) else 0 := by
  simp only [beq_iff_eq]
  by_cases e1 : a = p
  · have := h1 e1
    rw [if_pos (show A = p ∨ A = q from .inl this)]
    split <;> split <;> split <;> omega
  · by_cases e2 : a = q
    · have := h2 e2
      rw [if_pos (show A = p ∨ A = q from .inr this)]
      split <;> split <;> (try split) <;> omega
    · by_cases e3 : A = p ∨ A = q
      · rw [if_pos e3]
        split <;> split <;> (try split) <;> omega
      · rw [if_neg e3]
        split <;> split <;> (try split) <;> omega

theorem Dsu.unite {W W' : World} {S U L Z n : Nat} {lab up rt d least size : Nat → Nat} {cu cl cz : Nat} (h : Dsu W S U L Z n lab up rt d least size cu cl cz) {x y : Nat} (hx : x < n) (hy : y < n) (rx : rt x = x) (ry : rt y = y) (hne : x ≠ y)
    (hh : W'.heap[S]? = some (.cells (setsCells S U L Z n cu cl cz ((many n fun a => lab a == a) - 1)) 172 (0, 0))) (hu : Row W' U n (put up y x)) (hl : Row W' L n (put least x (min (least x) (least y)))) (hz : Row W' Z n (put size x (size x + size y))) :
    Dsu W' S U L Z n (mer lab (least x) (least y)) (put up y x) (fun a => if rt a = y then x else rt a) (fun a => if rt a = y then d a + d x + 1 else d a) (put least x (min (least x) (least y))) (put size x (size x + size y)) cu cl cz := by
  have lx := h.leastE x hx
  have ly := h.leastE y hy
  rw [rx] at lx
  rw [ry] at ly
  have hroot : ∀ c, c < n → (lab c = least x ↔ rt c = x) := fun c hc => by
    constructor
    · intro e
      have e1 := h.labE c hc
      have e2 := (h.leastE c hc).2
      rw [← e1, e, lx.2] at e2
      exact e2.symm
    · intro e; rw [h.labE c hc, e]
  have hrooty : ∀ c, c < n → (lab c = least y ↔ rt c = y) := fun c hc => by
    constructor
    · intro e
      have e1 := h.labE c hc
      have e2 := (h.leastE c hc).2
      rw [← e1, e, ly.2] at e2
      exact e2.symm
    · intro e; rw [h.labE c hc, e]
  have hlxy : least x ≠ least y := fun e => hne (by rw [← lx.2, e, ly.2])
  have hminr : rt (min (least x) (least y)) = x ∨ rt (min (least x) (least y)) = y := by
    rcases Nat.le_total (least x) (least y) with h1 | h1
    · rw [Nat.min_eq_left h1]; exact .inl lx.2
    · rw [Nat.min_eq_right h1]; exact .inr ly.2
  refine ⟨?_, hu, hl, hz, h.ul, h.uz, h.lz, h.forest.unite hx hy rx ry hne, h.bound, fun c hc => ?_, fun c hc => ?_, fun c hc => ?_, fun r hr hrr => ?_⟩
  · -- one label less
    have hM : max (least x) (least y) < n := by omega
    have key : many n (fun a => mer lab (least x) (least y) a == a) + many n (fun a => a == max (least x) (least y)) = many n fun a => lab a == a := by
      refine many_add fun a ha => ?_
      have l1 := (hroot a ha)
      have l2 := (hrooty a ha)
      have fx : lab (least x) = least x := by rw [h.labE _ lx.1, lx.2]
      have fy : lab (least y) = least y := by rw [h.labE _ ly.1, ly.2]
      exact key_nat (lab a) a (least x) (least y) hlxy (fun e => by rw [e]; exact fx) (fun e => by rw [e]; exact fy)
    rw [many_one hM] at key
    rw [show (many n fun a => mer lab (least x) (least y) a == a) = (many n fun a => lab a == a) - 1 by omega]
    exact hh
  · unfold mer
    by_cases e1 : rt c = y
    · rw [if_pos (.inr ((hrooty c hc).2 e1)), if_pos e1, put_same]
    · rw [if_neg e1]
      by_cases e2 : rt c = x
      · rw [if_pos (.inl ((hroot c hc).2 e2)), e2, put_same]
      · rw [if_neg (fun h => h.elim (fun h => e2 ((hroot c hc).1 h)) (fun h => e1 ((hrooty c hc).1 h))), put_other _ _ e2]
        exact h.labE c hc
  · have hm : (if rt (min (least x) (least y)) = y then x else rt (min (least x) (least y))) = x := by
      rcases hminr with h1 | h1
      · rw [h1]; split <;> rfl
      · rw [if_pos h1]
    by_cases e1 : rt c = y
    · rw [if_pos e1, put_same]
      exact ⟨by omega, hm⟩
    · rw [if_neg e1]
      by_cases e2 : rt c = x
      · rw [e2, put_same]
        exact ⟨by omega, hm⟩
      · rw [put_other _ _ e2]
        have := h.leastE c hc
        refine ⟨this.1, ?_⟩
        rw [this.2, if_neg e1]
  · unfold mer
    have := h.lowE c hc
    split
    · rename_i e
      rcases e with e | e <;> omega
    · exact this
  · by_cases e1 : r = x
    · subst e1
      rw [put_same, h.sizeE _ hx rx, h.sizeE _ hy ry]
      refine many_add fun a ha => ?_
      by_cases e2 : rt a = y
      · rw [if_pos e2]
        have : (rt a == r) = false := by rw [e2]; simp; omega
        rw [this]
        simp [e2]
      · rw [if_neg e2]
        have : (rt a == y) = false := by simpa using e2
        rw [this]
        simp
    · have e2 : rt r ≠ y := fun e => by rw [if_pos e] at hrr; exact e1 hrr.symm
      rw [if_neg e2] at hrr
      rw [put_other _ _ e1, h.sizeE r hr hrr]
      refine many_congr fun a ha => ?_
      by_cases e3 : rt a = y
      · rw [if_pos e3, e3]
        have h1 : (y == r) = false := by
          simp
          intro e; exact e2 (by rw [← e]; exact ry)
        have h2 : (x == r) = false := by simp; omega
        rw [h1, h2]
      · rw [if_neg e3]

end Go.Proofs.Ytipgbbhgmoehfaa

/-
  The contract of Union.
-/
namespace Go.Proofs.Ytipgbbhgmoehfaa
open Go.RowKit
set_option linter.unusedSimpArgs false

theorem Dsu.drewN {W : World} {S U L Z n : Nat} {lab up rt d least size : Nat → Nat} {cu cl cz : Nat} (h : Dsu W S U L Z n lab up rt d least size cu cl cz) (k : Nat) : Dsu (W.drewN k) S U L Z n lab up rt d least size cu cl cz := h.same fun _ _ => rfl
theorem Row.set_other {w : World} {g n g2 i : Nat} {f : Nat → Nat} (h : Row w g n f) (hg : g ≠ g2) (v : Value) : Row (w.setCell ⟨g2, i, none⟩ v) g n f := h.same (heap_setCell_other w ⟨g2, i, none⟩ g v hg)
theorem head_other {w : World} {S g i : Nat} {o : Obj} (h : w.heap[S]? = some o) (hg : S ≠ g) (v : Value) : (w.setCell ⟨g, i, none⟩ v).heap[S]? = some o := (heap_setCell_other w ⟨g, i, none⟩ S v hg).trans h
theorem Dsu.after {w : World} {S U L Z n : Nat} {lab up rt d least size : Nat → Nat} {cu cl cz : Nat} (h : Dsu w S U L Z n lab up rt d least size cu cl cz) {x y : Nat} (hx : x < n) (hy : y < n) (rx : rt x = x) (ry : rt y = y) (hne : x ≠ y)
    {s c m : Int} (hs : s = (size x + size y : Nat)) (hc : c = ((many n fun a => lab a == a) - 1 : Nat)) (hm : m = (min (least x) (least y) : Nat)) :
    Dsu ((((w.setCell ⟨U, y, none⟩ (.int .i64 x)).setCell ⟨Z, x, none⟩ (.int .i64 s)).setCell ⟨L, x, none⟩ (.int .i64 m)).setCell ⟨S, 4, none⟩ (.int .i64 c)) S U L Z n (mer lab (least x) (least y)) (put up y x) (fun a => if rt a = y then x else rt a) (fun a => if rt a = y then d a + d x + 1 else d a) (put least x (min (least x) (least y))) (put size x (size x + size y)) cu cl cz := by
  subst hs hc hm
  obtain ⟨hSU, hSL, hSZ⟩ := h.suz
  refine h.unite hx hy rx ry hne ?_ ?_ ?_ ?_
  · exact heap_setCell_same _ S 4 _ 172 _ (head_other (head_other (head_other h.head hSU _) hSZ _) hSL _)
  · exact (((h.rowU.put y x).set_other h.uz _).set_other h.ul _).set_other hSU.symm _
  · exact (((h.rowL.set_other h.ul.symm _).set_other h.lz _).put x _).set_other hSL.symm _
  · exact (((h.rowZ.set_other h.uz.symm _).put x _).set_other h.lz.symm _).set_other hSZ.symm _

section
variable {W : World} {S U L Z n : Nat} {lab up rt d least size : Nat → Nat} {cu cl cz : Nat} (h : Dsu W S U L Z n lab up rt d least size cu cl cz)
include h
set_option maxRecDepth 100000 in
set_option maxHeartbeats 4000000 in
theorem SUnion_diff (a b : Nat) (ha : a < n) (hb : b < n) (hne : rt a ≠ rt b) : Calls Try.prog 71 #[.pointer (some ⟨S, 0, none⟩), .int .i64 a, .int .i64 b] W fun e w' => e = .returned (.tuple #[.bool true, .int .i64 0]) ∧
    ∃ up' rt' d' least' size', Dsu w' S U L Z n (mer lab (lab a) (lab b)) up' rt' d' least' size' cu cl cz ∧ Only [S, U, L, Z] W w' := by
  have CV := Lib.hid (svalid_any h)
  have CA := Lib.hid (has_any h (a : Int))
  have CB := Lib.hid (has_any h (b : Int))
  rw [decide_eq_true (show 0 ≤ (a : Int) ∧ (a : Int) < n by omega)] at CA
  rw [decide_eq_true (show 0 ≤ (b : Int) ∧ (b : Int) < n by omega)] at CB
  have CR := Lib.hid (root_dsu h a ha)
  have hra := h.forest.rlt a ha
  have hrb := h.forest.rlt b hb
  obtain ⟨x, hx⟩ : ∃ x, rt a = x := ⟨_, rfl⟩
  obtain ⟨y, hy⟩ : ∃ y, rt b = y := ⟨_, rfl⟩
  have hxx := h.forest.rrt ha
  have hyy := h.forest.rrt hb
  have hla := h.labE a ha
  have hlb := h.labE b hb
  have hsx := h.sizeE (rt a) hra hxx
  have hsy := h.sizeE (rt b) hrb hyy
  have hcnt : 1 ≤ many n fun a => lab a == a := by
    have : many n (fun c => c == lab a) ≤ many n fun a => lab a == a := by
      unfold many
      refine List.countP_mono_left fun c hc hcc => ?_
      simp only [beq_iff_eq] at hcc ⊢
      have h1 := h.leastE a ha
      rw [hcc, hla, h.labE _ h1.1, h1.2]
    have h2 := many_one (n := n) (M := lab a) (by rw [hla]; exact (h.leastE a ha).1)
    omega
  have hmx := many_le n fun c => rt c == rt a
  have hmy := many_le n fun c => rt c == rt b
  rw [← hsx] at hmx
  rw [← hsy] at hmy
  rw [hx] at hxx hla hra CR hne hmx
  rw [hy] at hyy hlb hrb hne hmy
  have hbd := h.bound
  have HL := Lib.hid (And.intro hla hlb)
  have HXX := Lib.hid (And.intro hxx hyy)
  have CR2 := Lib.hid (fun W1 up1 (h1 : Dsu W1 S U L Z n lab up1 rt d least size cu cl cz) => root_dsu h1 b hb)
  rw [hy] at CR2
  obtain ⟨hSU, hSL, hSZ⟩ := h.suz
  have hUL := h.ul
  have hUZ := h.uz
  have hLZ := h.lz
  have hUS := Ne.symm hSU
  have hLS := Ne.symm hSL
  have hZS := Ne.symm hSZ
  have hLU := Ne.symm hUL
  have hZU := Ne.symm hUZ
  have hZL := Ne.symm hLZ
  have hyx : y ≠ x := fun e => hne e.symm
  have q1 : ((x : Int) == (y : Int)) = false := by simp; omega
  clear h hx hy hxx hyy hla hlb hsx hsy
  go_enter Try.func71, Try.ntmps71
  go_wp2_with fail
  refine CV.out.mono ?_
  rintro e w' ⟨rfl, rfl⟩
  go_wp2_with fail
  refine CA.out.mono ?_
  rintro e w' ⟨rfl, rfl⟩
  go_wp2_with fail
  refine CB.out.mono ?_
  rintro e w' ⟨rfl, rfl⟩
  go_wp2_with fail
  refine CR.out.mono ?_
  rintro e w1 ⟨rfl, up1, hd1, hO1⟩
  have CR2' := Lib.hid (CR2.out w1 up1 hd1)
  have HO1 := Lib.hid hO1
  clear hd1 hO1 CR2 CR CV CA CB
  go_wp2_with fail
  refine CR2'.out.mono ?_
  rintro e w2 ⟨rfl, up2, hd2, hO2⟩
  have D2 := Lib.hid hd2
  have HO2 := Lib.hid (HO1.out.trans hO2)
  have s1 := hd2.c.1
  have s2 := hd2.c.2.1
  have s3 := hd2.c.2.2.1
  have s4 := hd2.c.2.2.2
  have z1 := hd2.rowZ.cell hra
  have z2 := hd2.rowZ.cell hrb
  clear hd2 hO2 CR2' HO1
  obtain ⟨N, hN⟩ : ∃ N, (many n fun a => lab a == a) = N := ⟨_, rfl⟩
  rw [hN] at s4 hcnt
  have HN := Lib.hid hN
  have hNn : N ≤ n := hN ▸ many_le n _
  clear hN
  by_cases hlt : size x < size y
  · go_wp2_with fail
    go_quiet (fail)
    have c1 := D2.out.rowU.frozen x
    have c2 := D2.out.rowZ.cell hrb
    have c3 := D2.out.rowZ.cell hra
    have c4 := D2.out.rowZ.frozen y
    have c5 := D2.out.rowL.cell hrb
    have c6 := D2.out.rowL.cell hra
    have c7 := D2.out.rowL.frozen y
    have c8 := frozen_of_heap (i := 4) D2.out.head
    have c9 := D2.out.rowU.cell hra
    go_wp2_with fail
    go_region
    go_wp2_with fail
    go_region
    go_wp2_with fail
    all_goals
      go_ret2
      refine ⟨rfl, ?_, ?_⟩
      · rw [HL.out.1, HL.out.2, mer_comm]
        exact ⟨_, _, _, _, _, Dsu.drewN ((D2.out.drewN _).after hrb hra HXX.out.2 HXX.out.1 hyx (by omega) (by rw [HN.out]; omega) (by omega)) 2⟩
      · exact ((((((HO2.out.mono fun k hk => by simp at hk; simp [hk]).drewN _).setCell (by simp) _).setCell (by simp) _).setCell (by simp) _).setCell (by simp) _).drewN 2
  · go_wp2_with fail
    go_quiet (fail)
    have c1 := D2.out.rowU.frozen y
    have c2 := D2.out.rowZ.cell hra
    have c3 := D2.out.rowZ.cell hrb
    have c4 := D2.out.rowZ.frozen x
    have c5 := D2.out.rowL.cell hra
    have c6 := D2.out.rowL.cell hrb
    have c7 := D2.out.rowL.frozen x
    have c8 := frozen_of_heap (i := 4) D2.out.head
    have c9 := D2.out.rowU.cell hrb
    go_wp2_with fail
    go_region
    go_wp2_with fail
    go_region
    go_wp2_with fail
    all_goals
      go_ret2
      refine ⟨rfl, ?_, ?_⟩
      · rw [HL.out.1, HL.out.2]
        exact ⟨_, _, _, _, _, Dsu.drewN ((D2.out.drewN _).after hra hrb HXX.out.1 HXX.out.2 hne (by omega) (by rw [HN.out]; omega) (by omega)) 2⟩
      · exact ((((((HO2.out.mono fun k hk => by simp at hk; simp [hk]).drewN _).setCell (by simp) _).setCell (by simp) _).setCell (by simp) _).setCell (by simp) _).drewN 2
end

end Go.Proofs.Ytipgbbhgmoehfaa

/-
  The partition's contracts as a whole.
-/
namespace Go.Proofs.Ytipgbbhgmoehfaa
open Go.RowKit
set_option linter.unusedSimpArgs false

section
variable {W : World} {S U L Z n : Nat} {lab up rt d least size : Nat → Nat} {cu cl cz : Nat} (h : Dsu W S U L Z n lab up rt d least size cu cl cz)
include h
set_option maxRecDepth 100000 in
set_option maxHeartbeats 4000000 in
theorem SUnion_same (a b : Nat) (ha : a < n) (hb : b < n) (he : rt a = rt b) : Calls Try.prog 71 #[.pointer (some ⟨S, 0, none⟩), .int .i64 a, .int .i64 b] W fun e w' => e = .returned (.tuple #[.bool false, .int .i64 0]) ∧
    Hid (∃ up', Dsu w' S U L Z n lab up' rt d least size cu cl cz ∧ Only [U] W w') := by
  have CV := Lib.hid (svalid_any h)
  have CA := Lib.hid (has_any h (a : Int))
  have CB := Lib.hid (has_any h (b : Int))
  rw [decide_eq_true (show 0 ≤ (a : Int) ∧ (a : Int) < n by omega)] at CA
  rw [decide_eq_true (show 0 ≤ (b : Int) ∧ (b : Int) < n by omega)] at CB
  have CR := Lib.hid (root_dsu h a ha)
  have CR2 := Lib.hid (fun W1 up1 (h1 : Dsu W1 S U L Z n lab up1 rt d least size cu cl cz) => root_dsu h1 b hb)
  rw [← he] at CR2
  clear h he
  go_enter Try.func71, Try.ntmps71
  go_wp2_with fail
  refine CV.out.mono ?_
  rintro e w' ⟨rfl, rfl⟩
  go_wp2_with fail
  refine CA.out.mono ?_
  rintro e w' ⟨rfl, rfl⟩
  go_wp2_with fail
  refine CB.out.mono ?_
  rintro e w' ⟨rfl, rfl⟩
  go_wp2_with fail
  refine CR.out.mono ?_
  rintro e w1 ⟨rfl, up1, hd1, hO1⟩
  have CR2' := Lib.hid (CR2.out w1 up1 hd1)
  have HO1 := Lib.hid hO1
  clear hd1 hO1 CR2 CR CV CA CB
  go_wp2_with fail
  refine CR2'.out.mono ?_
  rintro e w2 ⟨rfl, up2, hd2, hO2⟩
  have HF := Lib.hid (show ∃ up', Dsu w2 S U L Z n lab up' rt d least size cu cl cz ∧ Only [U] W w2 from ⟨up2, hd2, HO1.out.trans hO2⟩)
  clear hd2 hO2 CR2'
  go_wp2_with fail
  go_ret2
  exact ⟨rfl, HF⟩
set_option maxRecDepth 100000 in
theorem SUnion_out (a b : Int) (hab : ¬ ((0 ≤ a ∧ a < n) ∧ (0 ≤ b ∧ b < n))) : Calls Try.prog 71 #[.pointer (some ⟨S, 0, none⟩), .int .i64 a, .int .i64 b] W fun e w' => e = .returned (.tuple #[.bool false, .int .i64 3]) ∧ W = w' := by
  have CV := Lib.hid (svalid_any h)
  have CA := Lib.hid (has_any h a)
  have CB := Lib.hid (has_any h b)
  clear h
  by_cases ha : 0 ≤ a ∧ a < n
  · have hb : ¬ (0 ≤ b ∧ b < n) := fun hb => hab ⟨ha, hb⟩
    rw [decide_eq_true ha] at CA
    rw [decide_eq_false hb] at CB
    clear ha hb hab
    go_enter Try.func71, Try.ntmps71
    go_wp2_with fail
    refine CV.out.mono ?_
    rintro e w' ⟨rfl, rfl⟩
    go_wp2_with fail
    refine CA.out.mono ?_
    rintro e w' ⟨rfl, rfl⟩
    go_wp2_with fail
    refine CB.out.mono ?_
    rintro e w' ⟨rfl, rfl⟩
    go_wp2_with fail
    go_ret2
    exact ⟨rfl, rfl⟩
  · rw [decide_eq_false ha] at CA
    clear ha hab CB
    go_enter Try.func71, Try.ntmps71
    go_wp2_with fail
    refine CV.out.mono ?_
    rintro e w' ⟨rfl, rfl⟩
    go_wp2_with fail
    refine CA.out.mono ?_
    rintro e w' ⟨rfl, rfl⟩
    go_wp2_with fail
    go_ret2
    exact ⟨rfl, rfl⟩
end

theorem mer_same (lab : Nat → Nat) (x : Nat) : mer lab x x = lab := by
  funext c
  unfold mer
  split
  · rename_i h; rcases h with h | h <;> omega
  · rfl
/-- Union of two elements. -/
theorem DUnion {W : World} {F : List Nat} {S n : Nat} {lab : Nat → Nat} (h : DsuAt W F S n lab) (a b : Nat) (ha : a < n) (hb : b < n) : Calls Try.prog 71 #[.pointer (some ⟨S, 0, none⟩), .int .i64 a, .int .i64 b] W fun e w' =>
    e = .returned (.tuple #[.bool (decide (lab a ≠ lab b)), .int .i64 0]) ∧ DsuAt w' F S n (mer lab (lab a) (lab b)) ∧ Only F W w' := by
  obtain ⟨U, L, Z, up, rt, d, least, size, cu, cl, cz, rfl, h⟩ := h
  by_cases he : rt a = rt b
  · have hl : lab a = lab b := by rw [h.labE a ha, h.labE b hb, he]
    refine (SUnion_same h a b ha hb he).mono ?_
    rintro e w' ⟨rfl, hp⟩
    obtain ⟨up', hd, ho⟩ := hp.out
    refine ⟨by rw [decide_eq_false (fun h => h hl)], ?_, ho.mono fun k hk => by simp at hk; simp [hk]⟩
    rw [hl, mer_same]
    exact ⟨U, L, Z, up', rt, d, least, size, cu, cl, cz, rfl, hd⟩
  · have hl : lab a ≠ lab b := fun e => he (by
      have h1 := h.leastE a ha
      have h2 := h.leastE b hb
      rw [← h.labE a ha] at h1
      rw [← h.labE b hb, ← e] at h2
      rw [← h1.2, h2.2])
    refine (SUnion_diff h a b ha hb he).mono ?_
    rintro e w' ⟨rfl, up', rt', d', least', size', hd, ho⟩
    exact ⟨by rw [decide_eq_true hl], ⟨U, L, Z, up', rt', d', least', size', cu, cl, cz, rfl, hd⟩, ho⟩
theorem DUnion_out {W : World} {F : List Nat} {S n : Nat} {lab : Nat → Nat} (h : DsuAt W F S n lab) (a b : Int) (hab : ¬ ((0 ≤ a ∧ a < n) ∧ (0 ≤ b ∧ b < n))) : Calls Try.prog 71 #[.pointer (some ⟨S, 0, none⟩), .int .i64 a, .int .i64 b] W fun e w' => e = .returned (.tuple #[.bool false, .int .i64 3]) ∧ W = w' := by
  obtain ⟨U, L, Z, up, rt, d, least, size, cu, cl, cz, rfl, h⟩ := h
  exact SUnion_out h a b hab
theorem DLeast {W : World} {F : List Nat} {S n : Nat} {lab : Nat → Nat} (h : DsuAt W F S n lab) (a : Nat) (ha : a < n) : Calls Try.prog 83 #[.pointer (some ⟨S, 0, none⟩), .int .i64 a] W fun e w' =>
    e = .returned (.tuple #[.int .i64 (lab a), .int .i64 0]) ∧ DsuAt w' F S n lab ∧ Only F W w' := by
  obtain ⟨U, L, Z, up, rt, d, least, size, cu, cl, cz, rfl, h⟩ := h
  refine (Least_in h a ha).mono ?_
  rintro e w' ⟨rfl, up', hd, ho⟩
  exact ⟨rfl, ⟨U, L, Z, up', rt, d, least, size, cu, cl, cz, rfl, hd⟩, ho.mono fun k hk => by simp at hk; simp [hk]⟩
theorem DLeast_out {W : World} {F : List Nat} {S n : Nat} {lab : Nat → Nat} (h : DsuAt W F S n lab) (a : Int) (ha : ¬ (0 ≤ a ∧ a < n)) : Calls Try.prog 83 #[.pointer (some ⟨S, 0, none⟩), .int .i64 a] W fun e w' => e = .returned (.tuple #[.int .i64 0, .int .i64 3]) ∧ W = w' := by
  obtain ⟨U, L, Z, up, rt, d, least, size, cu, cl, cz, rfl, h⟩ := h
  exact Least_out h a ha
theorem DCount {W : World} {F : List Nat} {S n : Nat} {lab : Nat → Nat} (h : DsuAt W F S n lab) : Calls Try.prog 86 #[.pointer (some ⟨S, 0, none⟩)] W fun e w' => e = .returned (.int .i64 (many n fun a => lab a == a : Nat)) ∧ W = w' := by
  obtain ⟨U, L, Z, up, rt, d, least, size, cu, cl, cz, rfl, h⟩ := h
  exact SCount_any h

end Go.Proofs.Ytipgbbhgmoehfaa
