import Derived.WalkKit
import Derived.WalkSpells
import Derived.WalkLawsBesides
import Derived.BigQuiet
import Derived.Laws.BitsAllLaws
import Derived.Lib.Hide
import Derived.IntWalk
import Derived.Deep.RegionWith
import Derived.LaidEqlPtr
import Derived.Deep.LoopGhost
import Derived.Deep.OwnRows
import Derived.RegionTactic
import Derived.StillTailTactics
import Derived.Shelf.Bits.Mul64
import Derived.Laws.Externs
import Derived.Test.YtipgbbhgmoehfaaDoorRows
/-
  Trees of the bag: where they lie, and the contract of sizes.
-/
namespace Go.Proofs.YtipgbbhgmoehfaaDoor
open Go.RowKit

/-- A tree with the blocks of its nodes. -/
inductive T where
  | leaf
  | node (g : Nat) (l : T) (x : Int) (t : Nat) (r : T)
namespace T
def sz : T → Nat
  | leaf => 0
  | node _ l _ t r => t + l.sz + r.sz
def ds : T → Nat
  | leaf => 0
  | node _ l _ _ r => 1 + l.ds + r.ds
def ht : T → Nat
  | leaf => 0
  | node _ l _ _ r => max l.ht r.ht + 1
def addr : T → Option Addr
  | leaf => none
  | node g _ _ _ _ => some ⟨g, 0, none⟩
abbrev ptr (t : T) : Value := .pointer t.addr
def blocks : T → List Nat
  | leaf => []
  | node g l _ _ r => g :: (l.blocks ++ r.blocks)
def cells (l : T) (x : Int) (t : Nat) (r : T) (s d h : Int) : Array Value := #[l.ptr, r.ptr, .int .i64 x, .int .i64 t, .int .i64 s, .int .i64 d, .int .i64 h]
end T

theorem cell_of_heap {W : World} {g i : Nat} {cs : Array Value} {t : TypeId} {v : Value} (h : W.heap[g]? = some (.cells cs t (0, 0))) (hv : cs[i]? = some v) : W.cell? ⟨g, i, none⟩ = some v := by
  simp [World.cell?, h, hv]
theorem frozen_of_heap {W : World} {g i : Nat} {cs : Array Value} {t : TypeId} (h : W.heap[g]? = some (.cells cs t (0, 0))) : W.frozen? ⟨g, i, none⟩ = false := by
  simp [World.frozen?, h]

end Go.Proofs.YtipgbbhgmoehfaaDoor

/-
  The contract of refresh.
-/
namespace Go.Proofs.YtipgbbhgmoehfaaDoor
open Go.RowKit
set_option linter.unusedSimpArgs false

/-- Nothing but these blocks has changed. -/
structure Only (gs : List Nat) (w w' : World) : Prop where
  os : w'.os = w.os
  tape : w'.tape = w.tape
  output : w'.output = w.output
  size : w.heap.size ≤ w'.heap.size
  block : ∀ k, k < w.heap.size → k ∉ gs → w'.heap[k]? = w.heap[k]?
theorem Only.refl (gs : List Nat) (w : World) : Only gs w w := ⟨rfl, rfl, rfl, Nat.le_refl _, fun _ _ _ => rfl⟩
theorem Only.trans {gs : List Nat} {a b c : World} (h : Only gs a b) (k : Only gs b c) : Only gs a c :=
  ⟨k.os.trans h.os, k.tape.trans h.tape, k.output.trans h.output, Nat.le_trans h.size k.size, fun i hi hn => (k.block i (Nat.lt_of_lt_of_le hi h.size) hn).trans (h.block i hi hn)⟩
theorem Only.mono {gs hs : List Nat} {a b : World} (h : Only gs a b) (hsub : ∀ k, k ∈ gs → k ∈ hs) : Only hs a b :=
  ⟨h.os, h.tape, h.output, h.size, fun i hi hn => h.block i hi fun hm => hn (hsub i hm)⟩
theorem Only.drewN {gs : List Nat} {a b : World} (h : Only gs a b) (n : Nat) : Only gs a (b.drewN n) := ⟨h.os, h.tape, h.output, h.size, h.block⟩
theorem Only.setCell {gs : List Nat} {a b : World} (h : Only gs a b) {g i : Nat} (hg : g ∈ gs) (v : Value) : Only gs a (b.setCell ⟨g, i, none⟩ v) :=
  ⟨h.os, h.tape, h.output, by rw [World.size_setCell]; exact h.size, fun k hk hn => (heap_setCell_other b ⟨g, i, none⟩ k v (fun e => hn (by rw [e]; exact hg))).trans (h.block k hk hn)⟩
theorem heap_lt {W : World} {g : Nat} {o : Obj} (h : W.heap[g]? = some o) : g < W.heap.size := (Array.getElem?_eq_some_iff.1 h).1
theorem Only.set3 {w W : World} {g : Nat} (h : Only [g] w W) (a b c : Int) : Only [g] w (((W.setCell ⟨g, 4, none⟩ (.int .i64 a)).setCell ⟨g, 5, none⟩ (.int .i64 b)).setCell ⟨g, 6, none⟩ (.int .i64 c)) :=
  ((h.setCell (List.mem_singleton_self g) _).setCell (List.mem_singleton_self g) _).setCell (List.mem_singleton_self g) _
/-- What refresh has gathered behind j kids. -/
def gs (l r : T) (t j : Nat) : Nat := t + (if 1 ≤ j then l.sz else 0) + (if 2 ≤ j then r.sz else 0)
def gd (l r : T) (j : Nat) : Nat := 1 + (if 1 ≤ j then l.ds else 0) + (if 2 ≤ j then r.ds else 0)
def gh (l r : T) (j : Nat) : Nat := max (if 1 ≤ j then l.ht else 0) (if 2 ≤ j then r.ht else 0)

end Go.Proofs.YtipgbbhgmoehfaaDoor

/-
  The contract of rotate.
-/
namespace Go.Proofs.YtipgbbhgmoehfaaDoor
open Go.RowKit

theorem ht_le (t : T) : t.ht ≤ t.ds := by
  induction t with
  | leaf => exact Nat.le_refl _
  | node g l x t r ihl ihr => simp only [T.ht, T.ds]; omega
theorem set_other {W : World} {g k i : Nat} {o : Obj} (v : Value) (h : W.heap[k]? = some o) (hne : k ≠ g) : (W.setCell ⟨g, i, none⟩ v).heap[k]? = some o :=
  (heap_setCell_other W ⟨g, i, none⟩ k v hne).trans h
end Go.Proofs.YtipgbbhgmoehfaaDoor

/-
  The contract of balance.
-/
namespace Go.Proofs.YtipgbbhgmoehfaaDoor
open Go.RowKit
set_option linter.unusedSimpArgs false

namespace T
def kid0 : T → T
  | leaf => leaf
  | node _ l _ _ _ => l
def kid1 : T → T
  | leaf => leaf
  | node _ _ _ _ r => r
def rot0 : T → T
  | node g (node gk a y u b) x t r => node gk a y u (node g b x t r)
  | t => t
def rot1 : T → T
  | node g l x t (node gk a y u b) => node gk (node g l x t a) y u b
  | t => t
def bal : T → T
  | leaf => leaf
  | node g l x t r =>
    if r.ht + 1 < l.ht then rot0 (node g (if l.kid0.ht < l.kid1.ht then rot1 l else l) x t r)
    else if l.ht + 1 < r.ht then rot1 (node g l x t (if r.kid1.ht < r.kid0.ht then rot0 r else r))
    else node g l x t r
end T

theorem perm_l1 (g gk gm : Nat) (a p q r : T) (x y z : Int) (t u v : Nat) : (T.node g (T.node gm (T.node gk a y u p) z v q) x t r).blocks.Perm (T.node g (T.node gk a y u (T.node gm p z v q)) x t r).blocks := by
  simp only [T.blocks, List.cons_append, List.append_assoc]
  refine .cons g ?_
  refine (List.Perm.swap gk gm _).trans (.cons gk ?_)
  exact List.perm_middle.symm

theorem perm_r1 (g gk gm : Nat) (b p q r : T) (x y z : Int) (t u v : Nat) : (T.node g r x t (T.node gm p z v (T.node gk q y u b))).blocks.Perm (T.node g r x t (T.node gk (T.node gm p z v q) y u b)).blocks := by
  simp only [T.blocks, List.cons_append, List.append_assoc]
  refine .cons g (List.Perm.append_left _ ?_)
  exact ((List.perm_middle (a := gk) (l₁ := p.blocks) (l₂ := q.blocks ++ b.blocks)).cons gm).trans (List.Perm.swap gk gm _)

end Go.Proofs.YtipgbbhgmoehfaaDoor

/-
  Balance as a whole, and what it keeps.
-/
namespace Go.Proofs.YtipgbbhgmoehfaaDoor
open Go.RowKit
set_option linter.unusedSimpArgs false

namespace T
/-- The numbers of a tree in order, with their counts. -/
def items : T → List (Int × Nat)
  | leaf => []
  | node _ l x t r => l.items ++ (x, t) :: r.items
def szL : List (Int × Nat) → Nat
  | [] => 0
  | p :: l => p.2 + szL l
theorem szL_append (a b : List (Int × Nat)) : szL (a ++ b) = szL a + szL b := by
  induction a with
  | nil => simp [szL]
  | cons p a ih => simp only [List.cons_append, szL, ih]; omega
theorem sz_items (t : T) : t.sz = szL t.items := by
  induction t with
  | leaf => rfl
  | node g l x t r ihl ihr => simp only [sz, items, szL_append, szL, ihl, ihr]; omega
theorem ds_items (t : T) : t.ds = t.items.length := by
  induction t with
  | leaf => rfl
  | node g l x t r ihl ihr => simp only [ds, items, List.length_append, List.length_cons, ihl, ihr]; omega
theorem sz_of {a b : T} (h : a.items = b.items) : a.sz = b.sz := by rw [sz_items, sz_items, h]
theorem ds_of {a b : T} (h : a.items = b.items) : a.ds = b.ds := by rw [ds_items, ds_items, h]
theorem rot0_items (t : T) : t.rot0.items = t.items := by
  unfold rot0; split <;> simp [items]
theorem rot1_items (t : T) : t.rot1.items = t.items := by
  unfold rot1; split <;> simp [items]
theorem rot0_blocks (t : T) : t.rot0.blocks.Perm t.blocks := by
  unfold rot0
  split
  · rename_i g gk a y u b x t r
    simp only [blocks, List.cons_append, List.append_assoc]
    exact ((List.perm_middle (a := g) (l₁ := a.blocks) (l₂ := b.blocks ++ r.blocks)).cons gk).trans (List.Perm.swap g gk _)
  · exact .refl _
theorem rot1_blocks (t : T) : t.rot1.blocks.Perm t.blocks := by
  unfold rot1
  split
  · rename_i g l x t gk a y u b
    simp only [blocks, List.cons_append, List.append_assoc]
    exact (List.Perm.swap g gk _).trans ((List.perm_middle (a := gk) (l₁ := l.blocks) (l₂ := a.blocks ++ b.blocks)).symm.cons g)
  · exact .refl _
theorem bal_items (t : T) : t.bal.items = t.items := by
  cases t with
  | leaf => rfl
  | node g l x t r =>
    simp only [bal]
    split
    · rw [rot0_items]; split <;> simp [items, rot1_items]
    · split
      · rw [rot1_items]; split <;> simp [items, rot0_items]
      · rfl
theorem bal_blocks (t : T) : t.bal.blocks.Perm t.blocks := by
  cases t with
  | leaf => exact .refl _
  | node g l x t r =>
    simp only [bal]
    split
    · refine (rot0_blocks _).trans ?_
      split
      · exact ((rot1_blocks l).append_right _).cons g
      · exact .refl _
    · split
      · refine (rot1_blocks _).trans ?_
        split
        · exact ((rot0_blocks r).append_left _).cons g
        · exact .refl _
      · exact .refl _
end T

end Go.Proofs.YtipgbbhgmoehfaaDoor

/-
  Disjoint sets: forests (plain), rows of integers, the root of an element.
-/
namespace Go.Proofs.YtipgbbhgmoehfaaDoor
open Go.RowKit
set_option linter.unusedSimpArgs false

/-- A forest of n elements: the element above each, its root, and a number that grows downwards. -/
structure Forest (n : Nat) (up rt d : Nat → Nat) : Prop where
  lt : ∀ a, a < n → up a < n
  rlt : ∀ a, a < n → rt a < n
  rr : ∀ a, a < n → up (rt a) = rt a
  ru : ∀ a, a < n → rt (up a) = rt a
  fix : ∀ a, a < n → up a = a → rt a = a
  dec : ∀ a, a < n → up a ≠ a → d (up a) < d a
def put (f : Nat → Nat) (a x : Nat) : Nat → Nat := fun i => if i = a then x else f i
theorem put_same (f : Nat → Nat) (a x : Nat) : put f a x a = x := if_pos rfl
theorem put_other (f : Nat → Nat) {a i : Nat} (x : Nat) (h : i ≠ a) : put f a x i = f i := if_neg h
theorem Forest.halve {n : Nat} {up rt d : Nat → Nat} (h : Forest n up rt d) {a : Nat} (ha : a < n) (hu : up a ≠ a) : Forest n (put up a (up (up a))) rt d := by
  have h1 := h.lt a ha
  have h2 := h.lt (up a) h1
  have hd := h.dec a ha hu
  have hdd : d (up (up a)) ≤ d (up a) := by
    by_cases e : up (up a) = up a
    · rw [e]; exact Nat.le_refl _
    · exact Nat.le_of_lt (h.dec (up a) h1 e)
  refine ⟨fun b hb => ?_, h.rlt, fun b hb => ?_, fun b hb => ?_, fun b hb hf => ?_, fun b hb hf => ?_⟩
  · unfold put; split
    · exact h2
    · exact h.lt b hb
  · by_cases e : rt b = a
    · exact absurd (e ▸ h.rr b hb) hu
    · rw [put_other _ _ e]; exact h.rr b hb
  · by_cases e : b = a
    · subst e; rw [put_same, h.ru _ h1, h.ru _ ha]
    · rw [put_other _ _ e]; exact h.ru b hb
  · by_cases e : b = a
    · subst e
      rw [put_same] at hf
      rw [hf] at hdd
      omega
    · rw [put_other _ _ e] at hf; exact h.fix b hb hf
  · by_cases e : b = a
    · subst e; rw [put_same]; omega
    · rw [put_other _ _ e] at hf ⊢; exact h.dec b hb hf
theorem Forest.own {n : Nat} (d : Nat → Nat) : Forest n id id d :=
  ⟨fun _ h => h, fun _ h => h, fun _ _ => rfl, fun _ _ => rfl, fun _ _ _ => rfl, fun _ _ h => absurd rfl h⟩
theorem Forest.rrt {n : Nat} {up rt d : Nat → Nat} (h : Forest n up rt d) {a : Nat} (ha : a < n) : rt (rt a) = rt a := h.fix (rt a) (h.rlt a ha) (h.rr a ha)
/-- Union: the root y goes below the root x. -/
theorem Forest.unite {n : Nat} {up rt d : Nat → Nat} (h : Forest n up rt d) {x y : Nat} (hx : x < n) (hy : y < n) (rx : rt x = x) (ry : rt y = y) (hne : x ≠ y) :
    Forest n (put up y x) (fun a => if rt a = y then x else rt a) (fun a => if rt a = y then d a + d x + 1 else d a) := by
  have hux : up x = x := by have := h.rr x hx; rwa [rx] at this
  have huy : up y = y := by have := h.rr y hy; rwa [ry] at this
  have hxy : ¬ rt x = y := by rw [rx]; exact hne
  refine ⟨fun b hb => ?_, fun b hb => ?_, fun b hb => ?_, fun b hb => ?_, fun b hb hf => ?_, fun b hb hf => ?_⟩
  · unfold put; split
    · exact hx
    · exact h.lt b hb
  · split
    · exact hx
    · exact h.rlt b hb
  · split
    · rw [put_other _ _ hne]; exact hux
    · rename_i e; rw [put_other _ _ e]; exact h.rr b hb
  · by_cases e : b = y
    · subst e; rw [put_same, if_neg hxy, if_pos ry, rx]
    · rw [put_other _ _ e, h.ru b hb]
  · by_cases e : b = y
    · subst e; rw [put_same] at hf; exact absurd hf hne
    · rw [put_other _ _ e] at hf
      have := h.fix b hb hf
      rw [this, if_neg e]
  · by_cases e : b = y
    · subst e; rw [put_same, if_neg hxy, if_pos ry]; omega
    · rw [put_other _ _ e] at hf ⊢
      rw [h.ru b hb]
      have := h.dec b hb hf
      split <;> omega

theorem cell_lt' {w : World} {a : Addr} {v : Value} (h : w.cell? a = some v) : a.block < w.heap.size := by
  unfold World.cell? at h
  by_cases hb : a.block < w.heap.size
  · exact hb
  · rw [Array.getElem?_eq_none (by omega)] at h
    simp at h
/-- A block holds these n values, and may be longer. -/
def RowGe (w : World) (g : Nat) (t : TypeId) (n : Nat) (v : Nat → Value) : Prop := ∃ c : Array Value, w.heap[g]? = some (.cells c t (0, 0)) ∧ ∀ i, i < n → c[i]? = some (v i)
theorem RowGe.congr {w : World} {g : Nat} {t : TypeId} {n : Nat} {v u : Nat → Value} (h : RowGe w g t n v) (e : ∀ i, i < n → v i = u i) : RowGe w g t n u := by
  obtain ⟨c, hc, r⟩ := h
  exact ⟨c, hc, fun i hi => by rw [r i hi, e i hi]⟩
theorem RowGe.set {w : World} {g : Nat} {t : TypeId} {n : Nat} {v : Nat → Value} (h : RowGe w g t n v) (i : Nat) (x : Value) : RowGe (w.setCell ⟨g, i, none⟩ x) g t n (fun j => if j = i then x else v j) := by
  obtain ⟨c, hc, r⟩ := h
  refine ⟨c.setIfInBounds i x, by simp [World.setCell, Array.getElem?_modify, hc], fun j hj => ?_⟩
  have hs : j < c.size := (Array.getElem?_eq_some_iff.1 (r j hj)).1
  by_cases e : j = i
  · subst e; simp [hs]
  · show _ = some (if j = i then x else v j)
    rw [if_neg e, Array.getElem?_setIfInBounds_ne (fun h => e h.symm)]; exact r j hj
/-- A row of numbers. -/
def Row (w : World) (g n : Nat) (f : Nat → Nat) : Prop := RowGe w g 3 n (fun i => .int .i64 (f i))
theorem Row.cell {w : World} {g n : Nat} {f : Nat → Nat} (h : Row w g n f) {i : Nat} (hi : i < n) : w.cell? ⟨g, i, none⟩ = some (.int .i64 (f i)) := by
  obtain ⟨c, hc, r⟩ := h
  exact cell_of_heap hc (r i hi)
theorem Row.frozen {w : World} {g n : Nat} {f : Nat → Nat} (h : Row w g n f) (i : Nat) : w.frozen? ⟨g, i, none⟩ = false := by
  obtain ⟨c, hc, r⟩ := h
  exact frozen_of_heap hc
theorem Row.heap {w : World} {g n : Nat} {f : Nat → Nat} (h : Row w g n f) : ∃ cs, w.heap[g]? = some (.cells cs 3 (0, 0)) := let ⟨c, hc, _⟩ := h; ⟨c, hc⟩
theorem Row.lt {w : World} {g n : Nat} {f : Nat → Nat} (h : Row w g n f) : g < w.heap.size := let ⟨_, hc⟩ := h.heap; heap_lt hc
theorem Row.put {w : World} {g n : Nat} {f : Nat → Nat} (h : Row w g n f) (i x : Nat) : Row (w.setCell ⟨g, i, none⟩ (.int .i64 x)) g n (put f i x) := by
  refine (RowGe.set h i (.int .i64 x)).congr fun j hj => ?_
  unfold Go.Proofs.YtipgbbhgmoehfaaDoor.put
  split <;> rfl
theorem Row.same {w w' : World} {g n : Nat} {f : Nat → Nat} (h : Row w g n f) (hk : w'.heap[g]? = w.heap[g]?) : Row w' g n f := by
  obtain ⟨c, hc, r⟩ := h
  exact ⟨c, hk.trans hc, r⟩
theorem Row.only {w w' : World} {g n : Nat} {f : Nat → Nat} {gs : List Nat} (h : Row w g n f) (ho : Only gs w w') (hg : g ∉ gs) : Row w' g n f := h.same (ho.block g h.lt hg)

/-- The cells of a partition. -/
def setsCells (S U L Z n cu cl cz cnt : Nat) : Array Value := #[.pointer (some ⟨S, 0, none⟩), .slice (some ⟨U, 0, none⟩) n cu, .slice (some ⟨L, 0, none⟩) n cl, .slice (some ⟨Z, 0, none⟩) n cz, .int .i64 cnt]

set_option maxRecDepth 100000 in
set_option maxHeartbeats 2000000 in
theorem root_any (S U n cu a : Nat) (up rt d : Nat → Nat) (w : World) (hS : w.cell? ⟨S, 1, none⟩ = some (.slice (some ⟨U, 0, none⟩) n cu)) (hSU : S ≠ U) (hU : Row w U n up) (hF : Forest n up rt d) (ha : a < n) :
    Calls Tryd.prog 46 #[.pointer (some ⟨S, 0, none⟩), .int .i64 a] w fun e w' => e = .returned (.int .i64 (rt a)) ∧ ∃ up', Forest n up' rt d ∧ Row w' U n up' ∧ Only [U] w w' := by
  go_enter Tryd.func46, Tryd.ntmps46
  go_wp2_with fail
  go_step3
  go_wp2_with fail
  go_step3
  go_wp2_with fail
  go_loopg [1] (d a) (fun k v wr => ∃ (b : Nat) (up' : Nat → Nat), v = .int .i64 b ∧ b < n ∧ Hid (d b = k) ∧ Hid (rt b = rt a) ∧ Hid (Forest n up' rt d) ∧ Hid (Row wr U n up') ∧ Hid (Only [U] w wr))
  case atStart => exact ⟨a, up, rfl, ha, Lib.hid rfl, Lib.hid rfl, Lib.hid hF, Lib.hid hU, Lib.hid (Only.refl _ _)⟩
  case round =>
    obtain ⟨b, up', rfl, hb, hk, hr, hf, hw, ho⟩ := hrel
    have s1 : wr.cell? ⟨S, 1, none⟩ = some (.slice (some ⟨U, 0, none⟩) n cu) := by
      rw [World.cell?_of_block (w := w) (ho.out.block S (cell_lt' hS) (by simpa using hSU))]; exact hS
    have HS := Lib.hid hS
    have HU := Lib.hid hU
    have HFF := Lib.hid hF
    clear hS hU hF
    have c1 := hw.out.cell hb
    have b2 := hf.out.lt b hb
    have b3 := hf.out.lt _ b2
    have z1 := hw.out.frozen b
    by_cases he : up' b = b
    · have HE := Lib.hid he
      rw [he] at c1
      clear he b2 b3
      go_wp2_with fail
      rw [Exit.noGoto_ret]
      go_ret
      exact ⟨by rw [← hr.out, hf.out.fix b hb HE.out]; rfl, up', hf.out, hw.out, ho.out⟩
    · have c2 := hw.out.cell b2
      have q : ((up' b : Int) == (b : Int)) = false := by simp; omega
      have HN := Lib.hid he
      have hdd : Hid (d (up' (up' b)) < d b) := Lib.hid (by
        have h1 := hf.out.dec b hb he
        by_cases e2 : up' (up' b) = up' b
        · rw [e2]; exact h1
        · exact Nat.lt_trans (hf.out.dec _ b2 e2) h1)
      have HF2 := Lib.hid (hf.out.halve hb he)
      have HR2 := Lib.hid (hw.out.put b (up' (up' b)))
      have HO2 := Lib.hid (ho.out.setCell (g := U) (i := b) (by simp) (.int .i64 (up' (up' b) : Nat)))
      have hru : Hid (rt (up' (up' b)) = rt a) := Lib.hid (by rw [hf.out.ru _ b2, hf.out.ru _ hb, hr.out])
      obtain ⟨p, hp⟩ : ∃ p, up' b = p := ⟨_, rfl⟩
      obtain ⟨t, ht⟩ : ∃ t, up' p = t := ⟨_, rfl⟩
      rw [hp] at c1 c2 b2 b3 q hdd HF2 HR2 HO2 hru
      rw [ht] at c2 b3 hdd HF2 HR2 HO2 hru
      have hSU2 : U ≠ S := fun e => hSU e.symm
      clear hp ht he
      go_wp2_with fail
      go_region
      go_wp2_with fail
      go_roundg (d t)
      case measure => have := hdd.out; have := hk.out; omega
      case rel => exact ⟨t, _, rfl, b3, Lib.hid rfl, hru, HF2, Lib.hid (HR2.out.same rfl), Lib.hid (HO2.out.drewN 1)⟩

end Go.Proofs.YtipgbbhgmoehfaaDoor

/-
  Disjoint sets as they lie in memory; Least, Count.
-/
namespace Go.Proofs.YtipgbbhgmoehfaaDoor
open Go.RowKit
set_option linter.unusedSimpArgs false

/-- How many of the first n numbers are p. -/
def many (n : Nat) (p : Nat → Bool) : Nat := (List.range n).countP p
theorem many_le (n : Nat) (p : Nat → Bool) : many n p ≤ n := by
  have := List.countP_le_length (p := p) (l := List.range n)
  simpa [many] using this

/-- Disjoint sets of n elements lie in these blocks; lab: the least element of each one's set. -/
structure Dsu (W : World) (S U L Z n : Nat) (lab : Nat → Nat) (up rt d least size : Nat → Nat) (cu cl cz : Nat) : Prop where
  head : W.heap[S]? = some (.cells (setsCells S U L Z n cu cl cz (many n fun a => lab a == a)) 109 (0, 0))
  rowU : Row W U n up
  rowL : Row W L n least
  rowZ : Row W Z n size
  ul : U ≠ L
  uz : U ≠ Z
  lz : L ≠ Z
  forest : Forest n up rt d
  bound : n ≤ 65536
  labE : ∀ a, a < n → lab a = least (rt a)
  leastE : ∀ a, a < n → least (rt a) < n ∧ rt (least (rt a)) = rt a
  lowE : ∀ a, a < n → lab a ≤ a
  sizeE : ∀ r, r < n → rt r = r → size r = many n fun a => rt a == r
def DsuAt (W : World) (F : List Nat) (S n : Nat) (lab : Nat → Nat) : Prop := ∃ U L Z up rt d least size cu cl cz, F = [S, U, L, Z] ∧ Dsu W S U L Z n lab up rt d least size cu cl cz
theorem Dsu.suz {W : World} {S U L Z n : Nat} {lab up rt d least size : Nat → Nat} {cu cl cz : Nat} (h : Dsu W S U L Z n lab up rt d least size cu cl cz) : S ≠ U ∧ S ≠ L ∧ S ≠ Z := by
  have e : ∀ g f, Row W g n f → S ≠ g := fun g f hr hg => by
    subst hg
    obtain ⟨cs, hc⟩ := hr.heap
    rw [h.head] at hc
    cases hc
  exact ⟨e _ _ h.rowU, e _ _ h.rowL, e _ _ h.rowZ⟩
theorem Dsu.same {W W' : World} {S U L Z n : Nat} {lab up rt d least size : Nat → Nat} {cu cl cz : Nat} (h : Dsu W S U L Z n lab up rt d least size cu cl cz) (hk : ∀ k, k ∈ [S, U, L, Z] → W'.heap[k]? = W.heap[k]?) :
    Dsu W' S U L Z n lab up rt d least size cu cl cz :=
  ⟨(hk S (by simp)).trans h.head, h.rowU.same (hk U (by simp)), h.rowL.same (hk L (by simp)), h.rowZ.same (hk Z (by simp)), h.ul, h.uz, h.lz, h.forest, h.bound, h.labE, h.leastE, h.lowE, h.sizeE⟩
theorem DsuAt.same {W W' : World} {F : List Nat} {S n : Nat} {lab : Nat → Nat} (h : DsuAt W F S n lab) (hk : ∀ k, k ∈ F → W'.heap[k]? = W.heap[k]?) : DsuAt W' F S n lab := by
  obtain ⟨U, L, Z, up, rt, d, least, size, cu, cl, cz, rfl, h⟩ := h
  exact ⟨U, L, Z, up, rt, d, least, size, cu, cl, cz, rfl, h.same hk⟩
theorem Dsu.flt {W : World} {S U L Z n : Nat} {lab up rt d least size : Nat → Nat} {cu cl cz : Nat} (h : Dsu W S U L Z n lab up rt d least size cu cl cz) : ∀ k, k ∈ [S, U, L, Z] → k < W.heap.size := by
  intro k hk
  simp only [List.mem_cons, List.not_mem_nil, or_false] at hk
  rcases hk with rfl | rfl | rfl | rfl
  · exact heap_lt h.head
  · exact h.rowU.lt
  · exact h.rowL.lt
  · exact h.rowZ.lt
theorem DsuAt.lt {W : World} {F : List Nat} {S n : Nat} {lab : Nat → Nat} (h : DsuAt W F S n lab) : ∀ k, k ∈ F → k < W.heap.size := by
  obtain ⟨U, L, Z, up, rt, d, least, size, cu, cl, cz, rfl, h⟩ := h
  exact h.flt
theorem DsuAt.only {W W' : World} {F gs : List Nat} {S n : Nat} {lab : Nat → Nat} (h : DsuAt W F S n lab) (ho : Only gs W W') (hd : ∀ k, k ∈ F → k ∉ gs) : DsuAt W' F S n lab := h.same fun k hk => ho.block k (h.lt k hk) (hd k hk)
theorem DsuAt.bound {W : World} {F : List Nat} {S n : Nat} {lab : Nat → Nat} (h : DsuAt W F S n lab) : n ≤ 65536 := by
  obtain ⟨U, L, Z, up, rt, d, least, size, cu, cl, cz, rfl, h⟩ := h
  exact h.bound
theorem DsuAt.low {W : World} {F : List Nat} {S n : Nat} {lab : Nat → Nat} (h : DsuAt W F S n lab) {a : Nat} (ha : a < n) : lab a ≤ a := by
  obtain ⟨U, L, Z, up, rt, d, least, size, cu, cl, cz, rfl, h⟩ := h
  exact h.lowE a ha
theorem DsuAt.idem {W : World} {F : List Nat} {S n : Nat} {lab : Nat → Nat} (h : DsuAt W F S n lab) {a : Nat} (ha : a < n) : lab (lab a) = lab a := by
  obtain ⟨U, L, Z, up, rt, d, least, size, cu, cl, cz, rfl, h⟩ := h
  have h1 := h.labE a ha
  have h2 := h.leastE a ha
  rw [h1, h.labE _ h2.1, h2.2]

theorem sets_info : Tryd.prog.info? 109 = some ((Tryd.prog.info? 109).getD default) := by kernel_rfl

section
variable {W : World} {S U L Z n : Nat} {lab up rt d least size : Nat → Nat} {cu cl cz : Nat} (h : Dsu W S U L Z n lab up rt d least size cu cl cz)
include h
set_option maxRecDepth 100000 in
theorem svalid_any : Calls Tryd.prog 44 #[.pointer (some ⟨S, 0, none⟩)] W fun e w' => e = .returned (.bool true) ∧ W = w' := by
  have c0 := cell_of_heap (i := 0) h.head rfl
  replace c0 : W.cell? ⟨S, 0, none⟩ = some (.pointer (some ⟨S, 0, none⟩)) := c0
  clear h
  go_enter Tryd.func44, Tryd.ntmps44
  have he := fun W => run_eql_ptr_same (P := Tryd.prog) (w := W) (tp := 89) (te := 109) ⟨S, 0, none⟩ Tryd.underlying89 sets_info
  go_wp2
  go_ret
  exact ⟨rfl, rfl⟩
set_option maxRecDepth 100000 in
theorem has_any (a : Int) : Calls Tryd.prog 45 #[.pointer (some ⟨S, 0, none⟩), .int .i64 a] W fun e w' => e = .returned (.bool (decide (0 ≤ a ∧ a < n))) ∧ W = w' := by
  have c1 := cell_of_heap (i := 1) h.head rfl
  replace c1 : W.cell? ⟨S, 1, none⟩ = some (.slice (some ⟨U, 0, none⟩) n cu) := c1
  have CV := Lib.hid (svalid_any h)
  clear h
  by_cases h0 : 0 ≤ a
  · by_cases h1 : a < n
    · rw [decide_eq_true ⟨h0, h1⟩]
      go_enter Tryd.func45, Tryd.ntmps45
      go_wp2_with fail
      refine CV.out.mono ?_
      rintro e w' ⟨rfl, rfl⟩
      go_wp2_with fail
      go_ret
      exact ⟨rfl, rfl⟩
    · rw [decide_eq_false (fun h => h1 h.2)]
      have q1 : decide (a < (n : Int)) = false := decide_eq_false h1
      go_enter Tryd.func45, Tryd.ntmps45
      go_wp2_with fail
      refine CV.out.mono ?_
      rintro e w' ⟨rfl, rfl⟩
      go_wp2_with fail
      go_ret
      exact ⟨rfl, rfl⟩
  · rw [decide_eq_false (fun h => h0 h.1)]
    have q : decide (0 ≤ a) = false := decide_eq_false h0
    go_enter Tryd.func45, Tryd.ntmps45
    go_wp2_with fail
    refine CV.out.mono ?_
    rintro e w' ⟨rfl, rfl⟩
    go_wp2_with fail
    go_ret
    exact ⟨rfl, rfl⟩
theorem Dsu.c : W.cell? ⟨S, 1, none⟩ = some (.slice (some ⟨U, 0, none⟩) n cu) ∧ W.cell? ⟨S, 2, none⟩ = some (.slice (some ⟨L, 0, none⟩) n cl) ∧ W.cell? ⟨S, 3, none⟩ = some (.slice (some ⟨Z, 0, none⟩) n cz) ∧
    W.cell? ⟨S, 4, none⟩ = some (.int .i64 (many n fun a => lab a == a : Nat)) := ⟨cell_of_heap h.head rfl, cell_of_heap h.head rfl, cell_of_heap h.head rfl, cell_of_heap h.head rfl⟩
theorem root_dsu (a : Nat) (ha : a < n) : Calls Tryd.prog 46 #[.pointer (some ⟨S, 0, none⟩), .int .i64 a] W fun e w' => e = .returned (.int .i64 (rt a)) ∧ ∃ up', Dsu w' S U L Z n lab up' rt d least size cu cl cz ∧ Only [U] W w' := by
  obtain ⟨hSU, hSL, hSZ⟩ := h.suz
  refine (root_any S U n cu a up rt d W h.c.1 hSU h.rowU h.forest ha).mono ?_
  rintro e w' ⟨rfl, up', hF, hR, hO⟩
  exact ⟨rfl, up', ⟨(hO.block S (h.flt S (by simp)) (by simpa using hSU)).trans h.head, hR, h.rowL.only hO (by simpa using h.ul.symm), h.rowZ.only hO (by simpa using h.uz.symm), h.ul, h.uz, h.lz, hF, h.bound, h.labE, h.leastE, h.lowE, h.sizeE⟩, hO⟩

end

end Go.Proofs.YtipgbbhgmoehfaaDoor

/-
  What a union makes of labels (plain).
-/
namespace Go.Proofs.YtipgbbhgmoehfaaDoor

theorem many_succ (n : Nat) (p : Nat → Bool) : many (n + 1) p = many n p + if p n then 1 else 0 := by
  unfold many
  rw [List.range_succ, List.countP_append]
  simp only [List.countP_cons, List.countP_nil, Nat.zero_add]
theorem many_congr {n : Nat} {p q : Nat → Bool} (h : ∀ a, a < n → p a = q a) : many n p = many n q := by
  induction n with
  | zero => rfl
  | succ n ih => rw [many_succ, many_succ, ih fun a ha => h a (by omega), h n (by omega)]
theorem many_add {n : Nat} {p q r : Nat → Bool} (h : ∀ a, a < n → (if p a then 1 else 0) + (if q a then 1 else 0) = if r a then (1 : Nat) else 0) : many n p + many n q = many n r := by
  induction n with
  | zero => rfl
  | succ n ih =>
    rw [many_succ, many_succ, many_succ]
    have := ih fun a ha => h a (by omega)
    have := h n (by omega)
    omega
theorem many_one {n M : Nat} (hM : M < n) : many n (fun a => a == M) = 1 := by
  induction n with
  | zero => omega
  | succ n ih =>
    rw [many_succ]
    by_cases h : M < n
    · rw [ih h, if_neg (by simp; omega)]
    · obtain rfl : M = n := by omega
      rw [if_pos (by simp)]
      have : many M (fun a => a == M) = 0 := by
        unfold many
        rw [List.countP_eq_zero]
        intro a ha
        have := List.mem_range.1 ha
        simp; omega
      omega

/-- The labels after the sets of two labels are one. -/
def mer (lab : Nat → Nat) (x y : Nat) : Nat → Nat := fun c => if lab c = x ∨ lab c = y then min x y else lab c
theorem mer_comm (lab : Nat → Nat) (x y : Nat) : mer lab x y = mer lab y x := by
  funext c
  unfold mer
  by_cases h : lab c = x ∨ lab c = y
  · rw [if_pos h, if_pos (Or.comm.1 h), Nat.min_comm]
  · rw [if_neg h, if_neg (fun e => h (Or.comm.1 e))]

theorem key_nat (A a p q : Nat) (hpq : p ≠ q) (h1 : a = p → A = p) (h2 : a = q → A = q) :
    (if ((if A = p ∨ A = q then min p q else A) == a) then 1 else 0) + (if (a == max p q) then 1 else 0) = if (A == a) then (1 : Nat) else 0 := by
  simp only [beq_iff_eq]
  by_cases e1 : a = p
  · have := h1 e1
    rw [if_pos (show A = p ∨ A = q from .inl this)]
    split <;> split <;> split <;> omega
  · by_cases e2 : a = q
    · have := h2 e2
      rw [if_pos (show A = p ∨ A = q from .inr this)]
      split <;> split <;> (try split) <;> omega
    · by_cases e3 : A = p ∨ A = q
      · rw [if_pos e3]
        split <;> split <;> (try split) <;> omega
      · rw [if_neg e3]
        split <;> split <;> (try split) <;> omega

theorem Dsu.unite {W W' : World} {S U L Z n : Nat} {lab up rt d least size : Nat → Nat} {cu cl cz : Nat} (h : Dsu W S U L Z n lab up rt d least size cu cl cz) {x y : Nat} (hx : x < n) (hy : y < n) (rx : rt x = x) (ry : rt y = y) (hne : x ≠ y)
    (hh : W'.heap[S]? = some (.cells (setsCells S U L Z n cu cl cz ((many n fun a => lab a == a) - 1)) 109 (0, 0))) (hu : Row W' U n (put up y x)) (hl : Row W' L n (put least x (min (least x) (least y)))) (hz : Row W' Z n (put size x (size x + size y))) :
    Dsu W' S U L Z n (mer lab (least x) (least y)) (put up y x) (fun a => if rt a = y then x else rt a) (fun a => if rt a = y then d a + d x + 1 else d a) (put least x (min (least x) (least y))) (put size x (size x + size y)) cu cl cz := by
  have lx := h.leastE x hx
  have ly := h.leastE y hy
  rw [rx] at lx
  rw [ry] at ly
  have hroot : ∀ c, c < n → (lab c = least x ↔ rt c = x) := fun c hc => by
    constructor
    · intro e
      have e1 := h.labE c hc
      have e2 := (h.leastE c hc).2
      rw [← e1, e, lx.2] at e2
      exact e2.symm
    · intro e; rw [h.labE c hc, e]
  have hrooty : ∀ c, c < n → (lab c = least y ↔ rt c = y) := fun c hc => by
    constructor
    · intro e
      have e1 := h.labE c hc
      have e2 := (h.leastE c hc).2
      rw [← e1, e, ly.2] at e2
      exact e2.symm
    · intro e; rw [h.labE c hc, e]
  have hlxy : least x ≠ least y := fun e => hne (by rw [← lx.2, e, ly.2])
  have hminr : rt (min (least x) (least y)) = x ∨ rt (min (least x) (least y)) = y := by
    rcases Nat.le_total (least x) (least y) with h1 | h1
    · rw [Nat.min_eq_left h1]; exact .inl lx.2
    · rw [Nat.min_eq_right h1]; exact .inr ly.2
  refine ⟨?_, hu, hl, hz, h.ul, h.uz, h.lz, h.forest.unite hx hy rx ry hne, h.bound, fun c hc => ?_, fun c hc => ?_, fun c hc => ?_, fun r hr hrr => ?_⟩
  · -- one label less
    have hM : max (least x) (least y) < n := by omega
    have key : many n (fun a => mer lab (least x) (least y) a == a) + many n (fun a => a == max (least x) (least y)) = many n fun a => lab a == a := by
      refine many_add fun a ha => ?_
      have l1 := (hroot a ha)
      have l2 := (hrooty a ha)
      have fx : lab (least x) = least x := by rw [h.labE _ lx.1, lx.2]
      have fy : lab (least y) = least y := by rw [h.labE _ ly.1, ly.2]
      exact key_nat (lab a) a (least x) (least y) hlxy (fun e => by rw [e]; exact fx) (fun e => by rw [e]; exact fy)
    rw [many_one hM] at key
    rw [show (many n fun a => mer lab (least x) (least y) a == a) = (many n fun a => lab a == a) - 1 by omega]
    exact hh
  · unfold mer
    by_cases e1 : rt c = y
    · rw [if_pos (.inr ((hrooty c hc).2 e1)), if_pos e1, put_same]
    · rw [if_neg e1]
      by_cases e2 : rt c = x
      · rw [if_pos (.inl ((hroot c hc).2 e2)), e2, put_same]
      · rw [if_neg (fun h => h.elim (fun h => e2 ((hroot c hc).1 h)) (fun h => e1 ((hrooty c hc).1 h))), put_other _ _ e2]
        exact h.labE c hc
  · have hm : (if rt (min (least x) (least y)) = y then x else rt (min (least x) (least y))) = x := by
      rcases hminr with h1 | h1
      · rw [h1]; split <;> rfl
      · rw [if_pos h1]
    by_cases e1 : rt c = y
    · rw [if_pos e1, put_same]
      exact ⟨by omega, hm⟩
    · rw [if_neg e1]
      by_cases e2 : rt c = x
      · rw [e2, put_same]
        exact ⟨by omega, hm⟩
      · rw [put_other _ _ e2]
        have := h.leastE c hc
        refine ⟨this.1, ?_⟩
        rw [this.2, if_neg e1]
  · unfold mer
    have := h.lowE c hc
    split
    · rename_i e
      rcases e with e | e <;> omega
    · exact this
  · by_cases e1 : r = x
    · subst e1
      rw [put_same, h.sizeE _ hx rx, h.sizeE _ hy ry]
      refine many_add fun a ha => ?_
      by_cases e2 : rt a = y
      · rw [if_pos e2]
        have : (rt a == r) = false := by rw [e2]; simp; omega
        rw [this]
        simp [e2]
      · rw [if_neg e2]
        have : (rt a == y) = false := by simpa using e2
        rw [this]
        simp
    · have e2 : rt r ≠ y := fun e => by rw [if_pos e] at hrr; exact e1 hrr.symm
      rw [if_neg e2] at hrr
      rw [put_other _ _ e1, h.sizeE r hr hrr]
      refine many_congr fun a ha => ?_
      by_cases e3 : rt a = y
      · rw [if_pos e3, e3]
        have h1 : (y == r) = false := by
          simp
          intro e; exact e2 (by rw [← e]; exact ry)
        have h2 : (x == r) = false := by simp; omega
        rw [h1, h2]
      · rw [if_neg e3]

end Go.Proofs.YtipgbbhgmoehfaaDoor

/-
  The contract of Union.
-/
namespace Go.Proofs.YtipgbbhgmoehfaaDoor
open Go.RowKit
set_option linter.unusedSimpArgs false

theorem Dsu.drewN {W : World} {S U L Z n : Nat} {lab up rt d least size : Nat → Nat} {cu cl cz : Nat} (h : Dsu W S U L Z n lab up rt d least size cu cl cz) (k : Nat) : Dsu (W.drewN k) S U L Z n lab up rt d least size cu cl cz := h.same fun _ _ => rfl
theorem Row.set_other {w : World} {g n g2 i : Nat} {f : Nat → Nat} (h : Row w g n f) (hg : g ≠ g2) (v : Value) : Row (w.setCell ⟨g2, i, none⟩ v) g n f := h.same (heap_setCell_other w ⟨g2, i, none⟩ g v hg)
theorem head_other {w : World} {S g i : Nat} {o : Obj} (h : w.heap[S]? = some o) (hg : S ≠ g) (v : Value) : (w.setCell ⟨g, i, none⟩ v).heap[S]? = some o := (heap_setCell_other w ⟨g, i, none⟩ S v hg).trans h
theorem Dsu.after {w : World} {S U L Z n : Nat} {lab up rt d least size : Nat → Nat} {cu cl cz : Nat} (h : Dsu w S U L Z n lab up rt d least size cu cl cz) {x y : Nat} (hx : x < n) (hy : y < n) (rx : rt x = x) (ry : rt y = y) (hne : x ≠ y)
    {s c m : Int} (hs : s = (size x + size y : Nat)) (hc : c = ((many n fun a => lab a == a) - 1 : Nat)) (hm : m = (min (least x) (least y) : Nat)) :
    Dsu ((((w.setCell ⟨U, y, none⟩ (.int .i64 x)).setCell ⟨Z, x, none⟩ (.int .i64 s)).setCell ⟨L, x, none⟩ (.int .i64 m)).setCell ⟨S, 4, none⟩ (.int .i64 c)) S U L Z n (mer lab (least x) (least y)) (put up y x) (fun a => if rt a = y then x else rt a) (fun a => if rt a = y then d a + d x + 1 else d a) (put least x (min (least x) (least y))) (put size x (size x + size y)) cu cl cz := by
  subst hs hc hm
  obtain ⟨hSU, hSL, hSZ⟩ := h.suz
  refine h.unite hx hy rx ry hne ?_ ?_ ?_ ?_
  · exact heap_setCell_same _ S 4 _ 109 _ (head_other (head_other (head_other h.head hSU _) hSZ _) hSL _)
  · exact (((h.rowU.put y x).set_other h.uz _).set_other h.ul _).set_other hSU.symm _
  · exact (((h.rowL.set_other h.ul.symm _).set_other h.lz _).put x _).set_other hSL.symm _
  · exact (((h.rowZ.set_other h.uz.symm _).put x _).set_other h.lz.symm _).set_other hSZ.symm _

section
variable {W : World} {S U L Z n : Nat} {lab up rt d least size : Nat → Nat} {cu cl cz : Nat} (h : Dsu W S U L Z n lab up rt d least size cu cl cz)
include h
set_option maxRecDepth 100000 in
set_option maxHeartbeats 4000000 in
theorem SUnion_diff (a b : Nat) (ha : a < n) (hb : b < n) (hne : rt a ≠ rt b) : Calls Tryd.prog 27 #[.pointer (some ⟨S, 0, none⟩), .int .i64 a, .int .i64 b] W fun e w' => e = .returned (.tuple #[.bool true, .int .i64 0]) ∧
    ∃ up' rt' d' least' size', Dsu w' S U L Z n (mer lab (lab a) (lab b)) up' rt' d' least' size' cu cl cz ∧ Only [S, U, L, Z] W w' := by
  have CV := Lib.hid (svalid_any h)
  have CA := Lib.hid (has_any h (a : Int))
  have CB := Lib.hid (has_any h (b : Int))
  rw [decide_eq_true (show 0 ≤ (a : Int) ∧ (a : Int) < n by omega)] at CA
  rw [decide_eq_true (show 0 ≤ (b : Int) ∧ (b : Int) < n by omega)] at CB
  have CR := Lib.hid (root_dsu h a ha)
  have hra := h.forest.rlt a ha
  have hrb := h.forest.rlt b hb
  obtain ⟨x, hx⟩ : ∃ x, rt a = x := ⟨_, rfl⟩
  obtain ⟨y, hy⟩ : ∃ y, rt b = y := ⟨_, rfl⟩
  have hxx := h.forest.rrt ha
  have hyy := h.forest.rrt hb
  have hla := h.labE a ha
  have hlb := h.labE b hb
  have hsx := h.sizeE (rt a) hra hxx
  have hsy := h.sizeE (rt b) hrb hyy
  have hcnt : 1 ≤ many n fun a => lab a == a := by
    have : many n (fun c => c == lab a) ≤ many n fun a => lab a == a := by
      unfold many
      refine List.countP_mono_left fun c hc hcc => ?_
      simp only [beq_iff_eq] at hcc ⊢
      have h1 := h.leastE a ha
      rw [hcc, hla, h.labE _ h1.1, h1.2]
    have h2 := many_one (n := n) (M := lab a) (by rw [hla]; exact (h.leastE a ha).1)
    omega
  have hmx := many_le n fun c => rt c == rt a
  have hmy := many_le n fun c => rt c == rt b
  rw [← hsx] at hmx
  rw [← hsy] at hmy
  rw [hx] at hxx hla hra CR hne hmx
  rw [hy] at hyy hlb hrb hne hmy
  have hbd := h.bound
  have HL := Lib.hid (And.intro hla hlb)
  have HXX := Lib.hid (And.intro hxx hyy)
  have CR2 := Lib.hid (fun W1 up1 (h1 : Dsu W1 S U L Z n lab up1 rt d least size cu cl cz) => root_dsu h1 b hb)
  rw [hy] at CR2
  obtain ⟨hSU, hSL, hSZ⟩ := h.suz
  have hUL := h.ul
  have hUZ := h.uz
  have hLZ := h.lz
  have hUS := Ne.symm hSU
  have hLS := Ne.symm hSL
  have hZS := Ne.symm hSZ
  have hLU := Ne.symm hUL
  have hZU := Ne.symm hUZ
  have hZL := Ne.symm hLZ
  have hyx : y ≠ x := fun e => hne e.symm
  have q1 : ((x : Int) == (y : Int)) = false := by simp; omega
  clear h hx hy hxx hyy hla hlb hsx hsy
  go_enter Tryd.func27, Tryd.ntmps27
  go_wp2_with fail
  refine CV.out.mono ?_
  rintro e w' ⟨rfl, rfl⟩
  go_wp2_with fail
  refine CA.out.mono ?_
  rintro e w' ⟨rfl, rfl⟩
  go_wp2_with fail
  refine CB.out.mono ?_
  rintro e w' ⟨rfl, rfl⟩
  go_wp2_with fail
  refine CR.out.mono ?_
  rintro e w1 ⟨rfl, up1, hd1, hO1⟩
  have CR2' := Lib.hid (CR2.out w1 up1 hd1)
  have HO1 := Lib.hid hO1
  clear hd1 hO1 CR2 CR CV CA CB
  go_wp2_with fail
  refine CR2'.out.mono ?_
  rintro e w2 ⟨rfl, up2, hd2, hO2⟩
  have D2 := Lib.hid hd2
  have HO2 := Lib.hid (HO1.out.trans hO2)
  have s1 := hd2.c.1
  have s2 := hd2.c.2.1
  have s3 := hd2.c.2.2.1
  have s4 := hd2.c.2.2.2
  have z1 := hd2.rowZ.cell hra
  have z2 := hd2.rowZ.cell hrb
  clear hd2 hO2 CR2' HO1
  obtain ⟨N, hN⟩ : ∃ N, (many n fun a => lab a == a) = N := ⟨_, rfl⟩
  rw [hN] at s4 hcnt
  have HN := Lib.hid hN
  have hNn : N ≤ n := hN ▸ many_le n _
  clear hN
  by_cases hlt : size x < size y
  · go_wp2_with fail
    go_quiet (fail)
    have c1 := D2.out.rowU.frozen x
    have c2 := D2.out.rowZ.cell hrb
    have c3 := D2.out.rowZ.cell hra
    have c4 := D2.out.rowZ.frozen y
    have c5 := D2.out.rowL.cell hrb
    have c6 := D2.out.rowL.cell hra
    have c7 := D2.out.rowL.frozen y
    have c8 := frozen_of_heap (i := 4) D2.out.head
    have c9 := D2.out.rowU.cell hra
    go_wp2_with fail
    go_region
    go_wp2_with fail
    go_region
    go_wp2_with fail
    all_goals
      go_ret2
      refine ⟨rfl, ?_, ?_⟩
      · rw [HL.out.1, HL.out.2, mer_comm]
        exact ⟨_, _, _, _, _, Dsu.drewN ((D2.out.drewN _).after hrb hra HXX.out.2 HXX.out.1 hyx (by omega) (by rw [HN.out]; omega) (by omega)) 2⟩
      · exact ((((((HO2.out.mono fun k hk => by simp at hk; simp [hk]).drewN _).setCell (by simp) _).setCell (by simp) _).setCell (by simp) _).setCell (by simp) _).drewN 2
  · go_wp2_with fail
    go_quiet (fail)
    have c1 := D2.out.rowU.frozen y
    have c2 := D2.out.rowZ.cell hra
    have c3 := D2.out.rowZ.cell hrb
    have c4 := D2.out.rowZ.frozen x
    have c5 := D2.out.rowL.cell hra
    have c6 := D2.out.rowL.cell hrb
    have c7 := D2.out.rowL.frozen x
    have c8 := frozen_of_heap (i := 4) D2.out.head
    have c9 := D2.out.rowU.cell hrb
    go_wp2_with fail
    go_region
    go_wp2_with fail
    go_region
    go_wp2_with fail
    all_goals
      go_ret2
      refine ⟨rfl, ?_, ?_⟩
      · rw [HL.out.1, HL.out.2]
        exact ⟨_, _, _, _, _, Dsu.drewN ((D2.out.drewN _).after hra hrb HXX.out.1 HXX.out.2 hne (by omega) (by rw [HN.out]; omega) (by omega)) 2⟩
      · exact ((((((HO2.out.mono fun k hk => by simp at hk; simp [hk]).drewN _).setCell (by simp) _).setCell (by simp) _).setCell (by simp) _).setCell (by simp) _).drewN 2
end

end Go.Proofs.YtipgbbhgmoehfaaDoor

/-
  The partition's contracts as a whole.
-/
namespace Go.Proofs.YtipgbbhgmoehfaaDoor
open Go.RowKit
set_option linter.unusedSimpArgs false

section
variable {W : World} {S U L Z n : Nat} {lab up rt d least size : Nat → Nat} {cu cl cz : Nat} (h : Dsu W S U L Z n lab up rt d least size cu cl cz)
include h
set_option maxRecDepth 100000 in
set_option maxHeartbeats 4000000 in
theorem SUnion_same (a b : Nat) (ha : a < n) (hb : b < n) (he : rt a = rt b) : Calls Tryd.prog 27 #[.pointer (some ⟨S, 0, none⟩), .int .i64 a, .int .i64 b] W fun e w' => e = .returned (.tuple #[.bool false, .int .i64 0]) ∧
    Hid (∃ up', Dsu w' S U L Z n lab up' rt d least size cu cl cz ∧ Only [U] W w') := by
  have CV := Lib.hid (svalid_any h)
  have CA := Lib.hid (has_any h (a : Int))
  have CB := Lib.hid (has_any h (b : Int))
  rw [decide_eq_true (show 0 ≤ (a : Int) ∧ (a : Int) < n by omega)] at CA
  rw [decide_eq_true (show 0 ≤ (b : Int) ∧ (b : Int) < n by omega)] at CB
  have CR := Lib.hid (root_dsu h a ha)
  have CR2 := Lib.hid (fun W1 up1 (h1 : Dsu W1 S U L Z n lab up1 rt d least size cu cl cz) => root_dsu h1 b hb)
  rw [← he] at CR2
  clear h he
  go_enter Tryd.func27, Tryd.ntmps27
  go_wp2_with fail
  refine CV.out.mono ?_
  rintro e w' ⟨rfl, rfl⟩
  go_wp2_with fail
  refine CA.out.mono ?_
  rintro e w' ⟨rfl, rfl⟩
  go_wp2_with fail
  refine CB.out.mono ?_
  rintro e w' ⟨rfl, rfl⟩
  go_wp2_with fail
  refine CR.out.mono ?_
  rintro e w1 ⟨rfl, up1, hd1, hO1⟩
  have CR2' := Lib.hid (CR2.out w1 up1 hd1)
  have HO1 := Lib.hid hO1
  clear hd1 hO1 CR2 CR CV CA CB
  go_wp2_with fail
  refine CR2'.out.mono ?_
  rintro e w2 ⟨rfl, up2, hd2, hO2⟩
  have HF := Lib.hid (show ∃ up', Dsu w2 S U L Z n lab up' rt d least size cu cl cz ∧ Only [U] W w2 from ⟨up2, hd2, HO1.out.trans hO2⟩)
  clear hd2 hO2 CR2'
  go_wp2_with fail
  go_ret2
  exact ⟨rfl, HF⟩
set_option maxRecDepth 100000 in
theorem SUnion_out (a b : Int) (hab : ¬ ((0 ≤ a ∧ a < n) ∧ (0 ≤ b ∧ b < n))) : Calls Tryd.prog 27 #[.pointer (some ⟨S, 0, none⟩), .int .i64 a, .int .i64 b] W fun e w' => e = .returned (.tuple #[.bool false, .int .i64 3]) ∧ W = w' := by
  have CV := Lib.hid (svalid_any h)
  have CA := Lib.hid (has_any h a)
  have CB := Lib.hid (has_any h b)
  clear h
  by_cases ha : 0 ≤ a ∧ a < n
  · have hb : ¬ (0 ≤ b ∧ b < n) := fun hb => hab ⟨ha, hb⟩
    rw [decide_eq_true ha] at CA
    rw [decide_eq_false hb] at CB
    clear ha hb hab
    go_enter Tryd.func27, Tryd.ntmps27
    go_wp2_with fail
    refine CV.out.mono ?_
    rintro e w' ⟨rfl, rfl⟩
    go_wp2_with fail
    refine CA.out.mono ?_
    rintro e w' ⟨rfl, rfl⟩
    go_wp2_with fail
    refine CB.out.mono ?_
    rintro e w' ⟨rfl, rfl⟩
    go_wp2_with fail
    go_ret2
    exact ⟨rfl, rfl⟩
  · rw [decide_eq_false ha] at CA
    clear ha hab CB
    go_enter Tryd.func27, Tryd.ntmps27
    go_wp2_with fail
    refine CV.out.mono ?_
    rintro e w' ⟨rfl, rfl⟩
    go_wp2_with fail
    refine CA.out.mono ?_
    rintro e w' ⟨rfl, rfl⟩
    go_wp2_with fail
    go_ret2
    exact ⟨rfl, rfl⟩
end

theorem mer_same (lab : Nat → Nat) (x : Nat) : mer lab x x = lab := by
  funext c
  unfold mer
  split
  · rename_i h; rcases h with h | h <;> omega
  · rfl
/-- Union of two elements. -/
theorem DUnion {W : World} {F : List Nat} {S n : Nat} {lab : Nat → Nat} (h : DsuAt W F S n lab) (a b : Nat) (ha : a < n) (hb : b < n) : Calls Tryd.prog 27 #[.pointer (some ⟨S, 0, none⟩), .int .i64 a, .int .i64 b] W fun e w' =>
    e = .returned (.tuple #[.bool (decide (lab a ≠ lab b)), .int .i64 0]) ∧ DsuAt w' F S n (mer lab (lab a) (lab b)) ∧ Only F W w' := by
  obtain ⟨U, L, Z, up, rt, d, least, size, cu, cl, cz, rfl, h⟩ := h
  by_cases he : rt a = rt b
  · have hl : lab a = lab b := by rw [h.labE a ha, h.labE b hb, he]
    refine (SUnion_same h a b ha hb he).mono ?_
    rintro e w' ⟨rfl, hp⟩
    obtain ⟨up', hd, ho⟩ := hp.out
    refine ⟨by rw [decide_eq_false (fun h => h hl)], ?_, ho.mono fun k hk => by simp at hk; simp [hk]⟩
    rw [hl, mer_same]
    exact ⟨U, L, Z, up', rt, d, least, size, cu, cl, cz, rfl, hd⟩
  · have hl : lab a ≠ lab b := fun e => he (by
      have h1 := h.leastE a ha
      have h2 := h.leastE b hb
      rw [← h.labE a ha] at h1
      rw [← h.labE b hb, ← e] at h2
      rw [← h1.2, h2.2])
    refine (SUnion_diff h a b ha hb he).mono ?_
    rintro e w' ⟨rfl, up', rt', d', least', size', hd, ho⟩
    exact ⟨by rw [decide_eq_true hl], ⟨U, L, Z, up', rt', d', least', size', cu, cl, cz, rfl, hd⟩, ho⟩
theorem DUnion_out {W : World} {F : List Nat} {S n : Nat} {lab : Nat → Nat} (h : DsuAt W F S n lab) (a b : Int) (hab : ¬ ((0 ≤ a ∧ a < n) ∧ (0 ≤ b ∧ b < n))) : Calls Tryd.prog 27 #[.pointer (some ⟨S, 0, none⟩), .int .i64 a, .int .i64 b] W fun e w' => e = .returned (.tuple #[.bool false, .int .i64 3]) ∧ W = w' := by
  obtain ⟨U, L, Z, up, rt, d, least, size, cu, cl, cz, rfl, h⟩ := h
  exact SUnion_out h a b hab
end Go.Proofs.YtipgbbhgmoehfaaDoor

/-
  The contracts of detach and join.
-/
namespace Go.Proofs.YtipgbbhgmoehfaaDoor
open Go.RowKit
set_option linter.unusedSimpArgs false

namespace T
/-- The first node of a tree (its block, its number, its count), and the rest. -/
def det : T → Nat × Int × Nat × T
  | leaf => (0, 0, 0, leaf)
  | node g leaf x t r => (g, x, t, r)
  | node g (node gk a y u b) x t r => ((det (node gk a y u b)).1, (det (node gk a y u b)).2.1, (det (node gk a y u b)).2.2.1, bal (node g (det (node gk a y u b)).2.2.2 x t r))
def join : T → T → T
  | leaf, b => b
  | a, leaf => a
  | a, b => bal (node b.det.1 a b.det.2.1 b.det.2.2.1 b.det.2.2.2)
theorem det_items (g : Nat) (l : T) (x : Int) (t : Nat) (r : T) : (node g l x t r).items = ((node g l x t r).det.2.1, (node g l x t r).det.2.2.1) :: (node g l x t r).det.2.2.2.items := by
  induction l generalizing g x t r with
  | leaf => rfl
  | node gk a y u b iha _ =>
    have h := iha gk y u b
    rw [show (node g (node gk a y u b) x t r).items = (node gk a y u b).items ++ (x, t) :: r.items from rfl, h]
    simp only [det, bal_items, items, List.cons_append]
theorem det_blocks (g : Nat) (l : T) (x : Int) (t : Nat) (r : T) : ((node g l x t r).det.1 :: (node g l x t r).det.2.2.2.blocks).Perm (node g l x t r).blocks := by
  induction l generalizing g x t r with
  | leaf => simp [det, blocks]
  | node gk a y u b iha _ =>
    have h := iha gk y u b
    simp only [det]
    refine ((bal_blocks _).cons _).trans ?_
    simp only [blocks] at h ⊢
    refine (List.Perm.swap _ _ _).trans (.cons g ?_)
    have := h.append_right r.blocks
    simpa using this
theorem join_items (a b : T) : (join a b).items = a.items ++ b.items := by
  cases a with
  | leaf => simp [join, items]
  | node g l x t r =>
    cases b with
    | leaf => simp [join, items]
    | node g2 l2 x2 t2 r2 =>
      simp only [join]
      rw [bal_items, det_items g2 l2 x2 t2 r2]
      rfl
theorem join_blocks (a b : T) : (join a b).blocks.Perm (a.blocks ++ b.blocks) := by
  cases a with
  | leaf => simp [join, blocks]
  | node g l x t r =>
    cases b with
    | leaf => simp [join, blocks]
    | node g2 l2 x2 t2 r2 =>
      simp only [join]
      refine (bal_blocks _).trans ?_
      refine List.Perm.trans ?_ ((det_blocks g2 l2 x2 t2 r2).append_left _)
      exact List.perm_middle.symm
end T

end Go.Proofs.YtipgbbhgmoehfaaDoor

/-
  The contract of update.
-/
namespace Go.Proofs.YtipgbbhgmoehfaaDoor
open Go.RowKit
set_option linter.unusedSimpArgs false

namespace T
def cnt (x : Int) : T → Nat
  | leaf => 0
  | node _ l y t r => if x < y then l.cnt x else if y < x then r.cnt x else t
def upd (N : Nat) (x : Int) (f : Nat → Nat) : T → T
  | leaf => if f 0 = 0 then leaf else node N leaf x (f 0) leaf
  | node g l y t r => if x < y then bal (node g (upd N x f l) y t r) else if y < x then bal (node g l y t (upd N x f r)) else if f t = 0 then join l r else bal (node g l y (f t) r)
theorem upd_sz (N : Nat) (x : Int) (f : Nat → Nat) (t : T) : (upd N x f t).sz ≤ t.sz + f (t.cnt x) := by
  induction t with
  | leaf => simp only [upd]; split <;> simp_all [sz, cnt]
  | node g l y t r ihl ihr =>
    simp only [upd, cnt]
    split
    · rw [sz_of (bal_items _)]; simp only [sz]; omega
    · split
      · rw [sz_of (bal_items _)]; simp only [sz]; omega
      · split
        · rw [sz_items, join_items, szL_append, ← sz_items, ← sz_items]; simp only [sz]; omega
        · rw [sz_of (bal_items _)]; simp only [sz]; omega
theorem upd_ds (N : Nat) (x : Int) (f : Nat → Nat) (t : T) : (upd N x f t).ds ≤ t.ds + 1 := by
  induction t with
  | leaf => simp only [upd]; split <;> simp_all [ds]
  | node g l y t r ihl ihr =>
    simp only [upd]
    split
    · rw [ds_of (bal_items _)]; simp only [ds]; omega
    · split
      · rw [ds_of (bal_items _)]; simp only [ds]; omega
      · split
        · rw [ds_items, join_items, List.length_append, ← ds_items, ← ds_items]; simp only [ds]; omega
        · rw [ds_of (bal_items _)]; simp only [ds]; omega
theorem upd_blocks (N : Nat) (x : Int) (f : Nat → Nat) (t : T) : ∃ rest, ((upd N x f t).blocks ++ rest).Perm (N :: t.blocks) := by
  induction t with
  | leaf =>
    simp only [upd]
    split
    · exact ⟨[N], .refl _⟩
    · exact ⟨[], .refl _⟩
  | node g l y t r ihl ihr =>
    obtain ⟨a, ha⟩ := ihl
    obtain ⟨b, hb⟩ := ihr
    simp only [upd]
    split
    · refine ⟨a, ((bal_blocks _).append_right _).trans ?_⟩
      rw [List.perm_iff_count] at ha ⊢
      intro k
      have := ha k
      simp only [blocks, List.count_append, List.count_cons, List.cons_append] at this ⊢
      omega
    · split
      · refine ⟨b, ((bal_blocks _).append_right _).trans ?_⟩
        rw [List.perm_iff_count] at hb ⊢
        intro k
        have := hb k
        simp only [blocks, List.count_append, List.count_cons, List.cons_append] at this ⊢
        omega
      · split
        · refine ⟨[N, g], ((join_blocks _ _).append_right _).trans ?_⟩
          rw [List.perm_iff_count]
          intro k
          simp only [blocks, List.count_append, List.count_cons, List.cons_append, List.count_nil]
          omega
        · refine ⟨[N], ((bal_blocks _).append_right _).trans ?_⟩
          rw [List.perm_iff_count]
          intro k
          simp only [blocks, List.count_append, List.count_cons, List.cons_append, List.count_nil]
          omega
theorem upd_mem {N : Nat} {x : Int} {f : Nat → Nat} {t : T} {k : Nat} (h : k ∈ (upd N x f t).blocks) : k = N ∨ k ∈ t.blocks := by
  obtain ⟨a, ha⟩ := upd_blocks N x f t
  exact List.mem_cons.1 (ha.mem_iff.1 (List.mem_append_left _ h))
theorem upd_nodup {N : Nat} {x : Int} {f : Nat → Nat} {t : T} (h : t.blocks.Nodup) (hN : N ∉ t.blocks) : (upd N x f t).blocks.Nodup := by
  obtain ⟨a, ha⟩ := upd_blocks N x f t
  exact (List.nodup_append.1 (ha.nodup_iff.2 (List.nodup_cons.2 ⟨hN, h⟩))).1
end T

/-- A function value enters its function. -/
def Goes (K : Nat) : Prop := ∀ (args : Array Value) (w : World), (callFunc K args).run Tryd.prog w = .ok (.enter K args) w
/-- What a closure over one box makes of a count, in the worlds that are like a given one. -/
def Makes (K Bx a b : Nat) (w : World) : Prop := ∀ w', w'.cell? ⟨Bx, 0, none⟩ = w.cell? ⟨Bx, 0, none⟩ → Calls Tryd.prog K #[.int .i64 a, .pointer (some ⟨Bx, 0, none⟩)] w' fun e w'' => e = .returned (.int .i64 b) ∧ w'' = w'
abbrev clo (K Bx : Nat) : Value := .func (.func K) #[] #[.pointer (some ⟨Bx, 0, none⟩)]

theorem Only.to {gs hs : List Nat} {a b c : World} (h : Only gs a b) (k : Only hs b c) (hsub : ∀ i, i ∈ hs → i < a.heap.size → i ∈ gs) : Only gs a c :=
  ⟨k.os.trans h.os, k.tape.trans h.tape, k.output.trans h.output, Nat.le_trans h.size k.size, fun i hi hn => (k.block i (Nat.lt_of_lt_of_le hi h.size) fun hm => hn (hsub i hm hi)).trans (h.block i hi hn)⟩

theorem Makes.same {K Bx a b : Nat} {w w' : World} (h : Makes K Bx a b w) (he : w'.cell? ⟨Bx, 0, none⟩ = w.cell? ⟨Bx, 0, none⟩) : Makes K Bx a b w' := fun w2 h2 => h w2 (h2.trans he)

end Go.Proofs.YtipgbbhgmoehfaaDoor

/-
  Update as a whole; what it makes of the numbers; the closures.
-/
namespace Go.Proofs.YtipgbbhgmoehfaaDoor
open Go.RowKit
set_option linter.unusedSimpArgs false

end Go.Proofs.YtipgbbhgmoehfaaDoor

/-
  What update makes of the numbers of a tree, as a list (plain).
-/
namespace Go.Proofs.YtipgbbhgmoehfaaDoor

abbrev Items := List (Int × Nat)
def Sorted (l : Items) : Prop := l.Pairwise fun a b => a.1 < b.1
def lcnt (x : Int) : Items → Nat
  | [] => 0
  | p :: l => if p.1 = x then p.2 else lcnt x l
/-- The list with x so many times (0: not at all). -/
def lput (x : Int) (n : Nat) : Items → Items
  | [] => if n = 0 then [] else [(x, n)]
  | p :: l => if p.1 < x then p :: lput x n l else if p.1 = x then (if n = 0 then l else (x, n) :: l) else (if n = 0 then p :: l else (x, n) :: p :: l)

theorem lcnt_none {x : Int} {l : Items} (h : ∀ p ∈ l, p.1 ≠ x) : lcnt x l = 0 := by
  induction l with
  | nil => rfl
  | cons p l ih => simp only [lcnt, if_neg (h p List.mem_cons_self)]; exact ih fun q hq => h q (List.mem_cons_of_mem _ hq)
theorem lcnt_left {x : Int} {a b : Items} (h : ∀ p ∈ b, p.1 ≠ x) : lcnt x (a ++ b) = lcnt x a := by
  induction a with
  | nil => exact lcnt_none h
  | cons p a ih => simp only [List.cons_append, lcnt, ih]
theorem lcnt_right {x : Int} {a b : Items} (h : ∀ p ∈ a, p.1 ≠ x) : lcnt x (a ++ b) = lcnt x b := by
  induction a with
  | nil => rfl
  | cons p a ih => simp only [List.cons_append, lcnt, if_neg (h p List.mem_cons_self)]; exact ih fun q hq => h q (List.mem_cons_of_mem _ hq)
theorem lput_left {x : Int} {n : Nat} {a b : Items} (h : ∀ p ∈ b, x < p.1) : lput x n (a ++ b) = lput x n a ++ b := by
  induction a with
  | nil =>
    cases b with
    | nil => simp [lput]
    | cons p b =>
      have := h p List.mem_cons_self
      simp only [List.nil_append, lput, if_neg (show ¬ p.1 < x by omega), if_neg (show ¬ p.1 = x by omega)]
      split <;> rfl
  | cons p a ih =>
    simp only [List.cons_append, lput, ih]
    split
    · rfl
    · split <;> split <;> rfl
theorem lput_right {x : Int} {n : Nat} {a b : Items} (h : ∀ p ∈ a, p.1 < x) : lput x n (a ++ b) = a ++ lput x n b := by
  induction a with
  | nil => rfl
  | cons p a ih => simp only [List.cons_append, lput, if_pos (h p List.mem_cons_self)]; rw [ih fun q hq => h q (List.mem_cons_of_mem _ hq)]

theorem sorted_split {a b : Items} {p : Int × Nat} (h : Sorted (a ++ p :: b)) : Sorted a ∧ Sorted b ∧ (∀ q ∈ a, q.1 < p.1) ∧ (∀ q ∈ b, p.1 < q.1) := by
  unfold Sorted at h ⊢
  rw [List.pairwise_append, List.pairwise_cons] at h
  obtain ⟨h1, ⟨h2, h3⟩, h4⟩ := h
  exact ⟨h1, h3, fun q hq => h4 q hq p List.mem_cons_self, h2⟩

theorem cnt_items (x : Int) (t : T) (h : Sorted t.items) : t.cnt x = lcnt x t.items := by
  induction t with
  | leaf => rfl
  | node g l y u r ihl ihr =>
    obtain ⟨h1, h2, h3, h4⟩ := sorted_split h
    simp only [T.cnt, T.items]
    split
    · rename_i hlt
      rw [ihl h1, lcnt_left]
      intro p hp
      rcases List.mem_cons.1 hp with rfl | hp
      · show y ≠ x; omega
      · have : y < p.1 := h4 p hp
        omega
    · split
      · rename_i hlt
        rw [ihr h2, lcnt_right (fun p hp => by have : p.1 < y := h3 p hp; omega)]
        rw [lcnt, if_neg (show ¬ y = x by omega)]
      · rw [lcnt_right (fun p hp => by have : p.1 < y := h3 p hp; omega), lcnt, if_pos (show y = x by omega)]

theorem upd_items (N : Nat) (x : Int) (f : Nat → Nat) (t : T) (h : Sorted t.items) : (T.upd N x f t).items = lput x (f (lcnt x t.items)) t.items := by
  rw [← cnt_items x t h]
  induction t with
  | leaf =>
    simp only [T.upd, T.cnt, T.items, lput]
    split <;> simp [T.items]
  | node g l y u r ihl ihr =>
    obtain ⟨h1, h2, h3, h4⟩ := sorted_split h
    simp only [T.upd, T.cnt]
    split
    · rename_i hlt
      rw [T.bal_items]
      simp only [T.items]
      rw [ihl h1, lput_left]
      intro p hp
      rcases List.mem_cons.1 hp with rfl | hp
      · exact hlt
      · have : y < p.1 := h4 p hp
        omega
    · split
      · rename_i hlt
        rw [T.bal_items]
        simp only [T.items]
        rw [ihr h2, lput_right (fun p hp => by have : p.1 < y := h3 p hp; omega), lput, if_pos (by exact hlt)]
      · obtain rfl : y = x := by omega
        simp only [T.items]
        rw [lput_right (x := y) (fun p hp => h3 p hp), lput, if_neg (show ¬ y < y by omega), if_pos (show y = y from rfl)]
        split
        · rw [T.join_items]
        · rw [T.bal_items]; rfl

theorem lput_mem {x : Int} {n : Nat} {l : Items} {p : Int × Nat} (h : p ∈ lput x n l) : (p = (x, n) ∧ n ≠ 0) ∨ p ∈ l := by
  induction l with
  | nil =>
    simp only [lput] at h
    split at h
    · simp at h
    · exact .inl ⟨by simpa using h, by assumption⟩
  | cons q l ih =>
    simp only [lput] at h
    split at h
    · rcases List.mem_cons.1 h with rfl | h
      · exact .inr List.mem_cons_self
      · exact (ih h).elim .inl fun h => .inr (List.mem_cons_of_mem _ h)
    · split at h
      · split at h
        · exact .inr (List.mem_cons_of_mem _ h)
        · rcases List.mem_cons.1 h with rfl | h
          · exact .inl ⟨rfl, by assumption⟩
          · exact .inr (List.mem_cons_of_mem _ h)
      · split at h
        · exact .inr h
        · rcases List.mem_cons.1 h with rfl | h
          · exact .inl ⟨rfl, by assumption⟩
          · exact .inr h
theorem lput_sorted {x : Int} {n : Nat} {l : Items} (h : Sorted l) : Sorted (lput x n l) := by
  induction l with
  | nil =>
    simp only [lput]
    split <;> simp [Sorted]
  | cons q l ih =>
    have h2 := List.pairwise_cons.1 h
    simp only [lput]
    split
    · rename_i hlt
      refine List.pairwise_cons.2 ⟨fun p hp => ?_, ih h2.2⟩
      rcases lput_mem hp with ⟨rfl, _⟩ | hp
      · exact hlt
      · exact h2.1 p hp
    · split
      · rename_i he
        split
        · exact h2.2
        · exact List.pairwise_cons.2 ⟨fun p hp => by have := h2.1 p hp; show x < p.1; omega, h2.2⟩
      · split
        · exact h
        · refine List.pairwise_cons.2 ⟨fun p hp => ?_, h⟩
          show x < p.1
          rcases List.mem_cons.1 hp with rfl | hp
          · omega
          · have := h2.1 p hp; omega
theorem lput_sz {x : Int} {n : Nat} {l : Items} (h : Sorted l) : T.szL (lput x n l) + lcnt x l = T.szL l + n := by
  induction l with
  | nil =>
    simp only [lput, lcnt]
    split
    · simp [T.szL]; omega
    · simp [T.szL]
  | cons q l ih =>
    have h2 := List.pairwise_cons.1 h
    have ih := ih h2.2
    simp only [lput, lcnt]
    split
    · rename_i hlt
      rw [if_neg (show ¬ q.1 = x by omega)]
      simp only [T.szL]
      omega
    · split
      · rename_i he
        split
        · simp only [T.szL]; omega
        · simp only [T.szL]; omega
      · have : lcnt x l = 0 := lcnt_none fun p hp => by have := h2.1 p hp; omega
        split
        · simp only [T.szL]; omega
        · simp only [T.szL]; omega
theorem lput_pos {x : Int} {n : Nat} {l : Items} (h : ∀ p ∈ l, 1 ≤ p.2) : ∀ p ∈ lput x n l, 1 ≤ p.2 := by
  intro p hp
  rcases lput_mem hp with ⟨rfl, hn⟩ | hp
  · show 1 ≤ n; omega
  · exact h p hp
theorem len_le_sz {l : Items} (h : ∀ p ∈ l, 1 ≤ p.2) : l.length ≤ T.szL l := by
  induction l with
  | nil => simp [T.szL]
  | cons p l ih =>
    have := h p List.mem_cons_self
    have := ih fun q hq => h q (List.mem_cons_of_mem _ hq)
    simp only [List.length_cons, T.szL]
    omega
theorem lcnt_le_sz (x : Int) (l : Items) : lcnt x l ≤ T.szL l := by
  induction l with
  | nil => simp [lcnt]
  | cons p l ih => simp only [lcnt, T.szL]; split <;> omega

end Go.Proofs.YtipgbbhgmoehfaaDoor

/-
  The contracts of a bag's functions that read.
-/
namespace Go.Proofs.YtipgbbhgmoehfaaDoor
open Go.RowKit
set_option linter.unusedSimpArgs false

end Go.Proofs.YtipgbbhgmoehfaaDoor

/-
  The contracts of Rank, Kth, Min, Max.
-/
namespace Go.Proofs.YtipgbbhgmoehfaaDoor
open Go.RowKit
set_option linter.unusedSimpArgs false

namespace T
def rank (x : Int) : T → Nat
  | leaf => 0
  | node _ l y t r => if x ≤ y then l.rank x else l.sz + t + r.rank x
theorem rank_le (x : Int) (t : T) : t.rank x ≤ t.sz := by
  induction t with
  | leaf => simp [rank]
  | node g l y u r ihl ihr => simp only [rank, sz]; split <;> omega
def kth : T → Nat → Int
  | leaf, _ => 0
  | node _ l x t r, k => if k < l.sz then l.kth k else if k < l.sz + t then x else r.kth (k - (l.sz + t))
end T

/-- What Kth returns. -/
def kthV (t : T) (k : Int) : Int := if 0 ≤ k ∧ k < t.sz then t.kth k.toNat else 0
def kthB (t : T) (k : Int) : Bool := decide (0 ≤ k ∧ k < t.sz)
end Go.Proofs.YtipgbbhgmoehfaaDoor

/-
  The contracts of New, Add, Remove.
-/
namespace Go.Proofs.YtipgbbhgmoehfaaDoor
open Go.RowKit
set_option linter.unusedSimpArgs false

theorem Only.alloc {gs : List Nat} {a b : World} (h : Only gs a b) (o : Obj) : Only gs a (b.alloc o) :=
  ⟨h.os, h.tape, h.output, by rw [World.size_alloc]; exact Nat.le_succ_of_le h.size, fun k hk hn => (heap_alloc_old _ _ (Nat.lt_of_lt_of_le hk h.size)).trans (h.block k hk hn)⟩
theorem lput_le {x : Int} {n : Nat} {t : T} (h : Sorted t.items) (hn : t.sz + n ≤ 2147483647 + t.cnt x) {t' : T} (e : t'.items = lput x n t.items) : t'.sz ≤ 2147483647 := by
  have h1 := lput_sz (x := x) (n := n) h
  rw [← e, ← T.sz_items, ← T.sz_items, ← cnt_items x t h] at h1
  omega

end Go.Proofs.YtipgbbhgmoehfaaDoor

/-
  Mul64 and Add64 in this program; the walk of a tree, given what a visit does.
-/
namespace Go.Proofs.YtipgbbhgmoehfaaDoor
open Go.RowKit
set_option linter.unusedSimpArgs false

set_option maxRecDepth 100000 in
set_option maxHeartbeats 1000000 in
theorem mul64_any (x y : Nat) (hx : x < 18446744073709551616) (hy : y < 18446744073709551616) (w : World) :
    Calls Tryd.prog 65 #[.int .u64 x, .int .u64 y] w fun e w' => e = .returned (.tuple #[.int .u64 ((x * y / 18446744073709551616 : Nat) : Int), .int .u64 ((x * y % 18446744073709551616 : Nat) : Int)]) ∧ w = w' := by
  obtain ⟨bd, bt, bw, hhi⟩ := Lib.mul64_hi x y hx hy
  have ba := Lib.half_mul_le (a := x / 4294967296) (b := y / 4294967296) (by omega) (by omega)
  have bb := Lib.half_mul_le (a := x / 4294967296) (b := y % 4294967296) (by omega) (by omega)
  have bc := Lib.half_mul_le (a := x % 4294967296) (b := y / 4294967296) (by omega) (by omega)
  have ba' : x / 4294967296 * (y / 4294967296) < 18446744073709551616 := by omega
  have bb' : x / 4294967296 * (y % 4294967296) < 18446744073709551616 := by omega
  have bc' : x % 4294967296 * (y / 4294967296) < 18446744073709551616 := by omega
  have bh1 : x / 4294967296 * (y / 4294967296) + (x / 4294967296 * (y % 4294967296) + x % 4294967296 * (y % 4294967296) / 4294967296) / 4294967296 < 18446744073709551616 := by omega
  have bh : x / 4294967296 * (y / 4294967296) + (x / 4294967296 * (y % 4294967296) + x % 4294967296 * (y % 4294967296) / 4294967296) / 4294967296 + ((x / 4294967296 * (y % 4294967296) + x % 4294967296 * (y % 4294967296) / 4294967296) % 4294967296 + x % 4294967296 * (y / 4294967296)) / 4294967296 < 18446744073709551616 := by omega
  go_enter Tryd.func65, Tryd.ntmps65
  go_wp2
  simp only [Mul64.maskN x hx, Mul64.maskN y hy, Mul64.divN, Mul64.mulN, Mul64.addN, Mul64.wrapN _ bd, Mul64.wrapN _ bb', Mul64.wrapN _ bt, Mul64.maskN _ bt, Mul64.wrapN _ bc', Mul64.wrapN _ bw, Mul64.wrapN _ ba', Mul64.wrapN _ bh1, Mul64.wrapN _ bh, Mul64.wrapM]
  rw [hhi]
  go_ret2
  exact ⟨rfl, rfl⟩

end Go.Proofs.YtipgbbhgmoehfaaDoor

/-
  Sum.
-/
namespace Go.Proofs.YtipgbbhgmoehfaaDoor
open Go.RowKit
set_option linter.unusedSimpArgs false

/-- The 128 bits of a pair of words are those of an integer. -/
def Acc (hi lo : Nat) (s : Int) : Prop := hi < 18446744073709551616 ∧ lo < 18446744073709551616 ∧ ∃ q : Int, (hi : Int) * 18446744073709551616 + lo = s + q * 340282366920938463463374607431768211456
theorem acc_step {hi lo ux n h0 l0 h1 : Nat} {s x : Int} (h : Acc hi lo s) (hux : ∃ q : Int, (ux : Int) = x + q * 18446744073709551616 ∧ ∃ p : Int, (h1 : Int) = h0 - q * n + p * 18446744073709551616)
    (hh0 : ux * n = h0 * 18446744073709551616 + l0) : Acc ((hi + h1 + (lo + l0 + 0) / 18446744073709551616) % 18446744073709551616) ((lo + l0 + 0) % 18446744073709551616) (s + x * n) := by
  obtain ⟨h1', h2', q0, h3'⟩ := h
  obtain ⟨q, hq, p, hp⟩ := hux
  refine ⟨Nat.mod_lt _ (by omega), Nat.mod_lt _ (by omega), q0 + p - ((hi + h1 + (lo + l0 + 0) / 18446744073709551616) / 18446744073709551616 : Nat), ?_⟩
  have e : x * n = (h0 : Int) * 18446744073709551616 + l0 - q * n * 18446744073709551616 := by
    have hh : (ux : Int) * n = (h0 : Int) * 18446744073709551616 + l0 := by rw [← Int.natCast_mul, hh0]; omega
    rw [hq, Int.add_mul, Int.mul_right_comm] at hh
    omega
  generalize x * n = xn at *
  generalize q * (n : Int) = qn at *
  omega

theorem wrap_u64_of (x : Int) : ∃ u : Nat, IntKind.u64.wrap x = (u : Int) ∧ u < 18446744073709551616 ∧ ∃ q : Int, (u : Int) = x + q * 18446744073709551616 :=
  ⟨(IntKind.u64.wrap x).toNat, by rw [IntKind.wrap_u64]; omega, by rw [IntKind.wrap_u64]; omega, -(x / 18446744073709551616), by rw [IntKind.wrap_u64]; omega⟩

theorem neg_u64 {x : Int} {u : Nat} (h : IntKind.u64.wrap x = (u : Int)) (hx : x < 0) (hx0 : -9223372036854775808 ≤ x) : (u : Int) = x + 1 * 18446744073709551616 := by
  rw [IntKind.wrap_u64] at h; omega
theorem pos_u64 {x : Int} {u : Nat} (h : IntKind.u64.wrap x = (u : Int)) (hx : ¬ x < 0) (hx0 : x ≤ 9223372036854775807) : (u : Int) = x + 0 * 18446744073709551616 := by
  rw [IntKind.wrap_u64] at h; omega
theorem set_words {W : World} {S : Nat} {a b : Value} (h : W.heap[S]? = some (.cells #[a, b] 116 (0, 0))) (c d : Value) : ((W.setCell ⟨S, 1, none⟩ d).setCell ⟨S, 0, none⟩ c).heap[S]? = some (.cells #[c, d] 116 (0, 0)) :=
  heap_setCell_same _ S 0 _ _ c (heap_setCell_same W S 1 _ _ d h)

end Go.Proofs.YtipgbbhgmoehfaaDoor

/-
  Sum and Squares of a bag.
-/
namespace Go.Proofs.YtipgbbhgmoehfaaDoor
open Go.RowKit
set_option linter.unusedSimpArgs false

def itSum : Items → Int
  | [] => 0
  | p :: l => p.1 * p.2 + itSum l
theorem itSum_append (a b : Items) : itSum (a ++ b) = itSum a + itSum b := by
  induction a with
  | nil => simp [itSum]
  | cons p a ih => simp only [List.cons_append, itSum, ih]; omega
theorem itSum_snoc (a : Items) (p : Int × Nat) : itSum (a ++ [p]) = itSum a + p.1 * p.2 := by rw [itSum_append]; simp [itSum]
/-- The numbers are of the type int64. -/
def Ranged (l : Items) : Prop := ∀ p ∈ l, -9223372036854775808 ≤ p.1 ∧ p.1 ≤ 9223372036854775807
theorem cnt_le_szL {l : Items} {p : Int × Nat} (h : p ∈ l) : p.2 ≤ T.szL l := by
  induction l with
  | nil => simp at h
  | cons q l ih =>
    simp only [T.szL]
    rcases List.mem_cons.1 h with rfl | h
    · omega
    · have := ih h; omega

theorem acc_zero : Acc 0 0 (itSum []) := ⟨by omega, by omega, 0, by simp [itSum]⟩
theorem acc_end {hi lo : Nat} {s : Int} (h : Acc hi lo s) (h0 : -9223372036854775808 ≤ s) (h1 : s ≤ 9223372036854775807) : IntKind.i64.wrap (lo : Int) = s ∧ (hi : Int) = if s < 0 then 18446744073709551615 else 0 := by
  obtain ⟨a, b, q, hq⟩ := h
  have hq' : q = 0 ∧ 0 ≤ s ∨ q = 1 ∧ s < 0 := by omega
  rw [IntKind.wrap_i64]
  rcases hq' with ⟨rfl, hs⟩ | ⟨rfl, hs⟩
  · rw [if_neg (by omega)]; omega
  · rw [if_pos hs]; omega

def itSq : Items → Nat
  | [] => 0
  | p :: l => p.1.natAbs * p.1.natAbs * p.2 + itSq l
theorem itSq_append (a b : Items) : itSq (a ++ b) = itSq a + itSq b := by
  induction a with
  | nil => simp [itSq]
  | cons p a ih => simp only [List.cons_append, itSq, ih]; omega

end Go.Proofs.YtipgbbhgmoehfaaDoor
