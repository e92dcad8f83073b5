import Derived.Shelf.SlSortCmp.Whole1
import Derived.Shelf.SlGeneric
import Derived.Deep.RegionHeld3
import Derived.Shelf.SlSortCmp.NoneTotal
import Derived.Test.YtipgbbhgmoehfaaDoorProg
import Derived.Test.YtipgbbhgmoehfaaDoorYJ
import Derived.Test.YtipgbbhgmoehfaaDoorYK
/-
  DERIVED: THE SHELF's CONTRACTS AT THIS DUMP, IN PLAIN WORDS (tools/lay-plain.mjs out of 'YtipgbbhgmoehfaaDoorSL.lean', which tools/lay-shelf.mjs wrote): THE SAME DECLARATIONS UNDER THE SAME NAMES: 'import', 'namespace', 'open', 'def', 'theorem' AND NOTHING ELSE: no command of the shelf's: FOR A HAND-IN. Each laying: the table of numbers ('.._ren') and one theorem, a field a fact of the dump's own or the kernel's comparison; each contract: ONE APPLICATION.
-/
namespace Go.Proofs
open Go.Shelf
def Tryd.sortInts_ren : Go.Shelf.Ren := ⟨fun | 6 => 39 | 15 => 62 | 14 => 61 | 28 => 76 | 29 => 77 | 20 => 68 | 21 => 69 | 22 => 70 | 23 => 71 | 24 => 72 | 25 => 73 | 26 => 74 | 27 => 75 | 46 => 80 | 47 => 81 | 48 => 82 | 49 => 83 | 50 => 84 | 57 => 87 | n => n, fun | 22 => 31 | 24 => 3 | 25 => 113 | 3 => 3 | 39 => 130 | 0 => 0 | 53 => 146 | 55 => 115 | 4 => 4 | 46 => 140 | 45 => 139 | 50 => 82 | 5 => 5 | 9 => 9 | 66 => 148 | 70 => 152 | 76 => 154 | 77 => 155 | n => n, fun | n => n⟩
theorem Tryd.sortInts : Go.Proofs.SlLaysF.n6 Tryd.prog Tryd.sortInts_ren := {
  mixed := by kernel_rfl
  f6 := ⟨Tryd.f39.name, by decide, Tryd.func39.trans (congrArg some (by kernel_rfl))⟩
  f14 := ⟨Tryd.f61.name, by decide, Tryd.func61.trans (congrArg some (by kernel_rfl))⟩
  f15 := Tryd.func62.trans (congrArg some (by kernel_rfl))
  f20 := ⟨Tryd.f68.name, by decide, Tryd.func68.trans (congrArg some (by kernel_rfl))⟩
  f21 := ⟨Tryd.f69.name, by decide, Tryd.func69.trans (congrArg some (by kernel_rfl))⟩
  f22 := ⟨Tryd.f70.name, by decide, Tryd.func70.trans (congrArg some (by kernel_rfl))⟩
  f23 := ⟨Tryd.f71.name, by decide, Tryd.func71.trans (congrArg some (by kernel_rfl))⟩
  f24 := ⟨Tryd.f72.name, by decide, Tryd.func72.trans (congrArg some (by kernel_rfl))⟩
  f25 := ⟨Tryd.f73.name, by decide, Tryd.func73.trans (congrArg some (by kernel_rfl))⟩
  f26 := ⟨Tryd.f74.name, by decide, Tryd.func74.trans (congrArg some (by kernel_rfl))⟩
  f27 := ⟨Tryd.f75.name, by decide, Tryd.func75.trans (congrArg some (by kernel_rfl))⟩
  f28 := Tryd.func76.trans (congrArg some (by kernel_rfl))
  f29 := Tryd.func77.trans (congrArg some (by kernel_rfl))
  f46 := ⟨Tryd.f80.name, by decide, Tryd.func80.trans (congrArg some (by kernel_rfl))⟩
  f47 := Tryd.func81.trans (congrArg some (by kernel_rfl))
  f48 := Tryd.func82.trans (congrArg some (by kernel_rfl))
  f49 := ⟨Tryd.f83.name, by decide, Tryd.func83.trans (congrArg some (by kernel_rfl))⟩
  f50 := ⟨Tryd.f84.name, by decide, Tryd.func84.trans (congrArg some (by kernel_rfl))⟩
  f57 := ⟨Tryd.f87.name, by decide, Tryd.func87.trans (congrArg some (by kernel_rfl))⟩
  t0 := Tryd.underlying0
  a0 := Tryd.isAgg0
  z0 := Tryd.sizeOf0
  v0 := Tryd.zeroValue0
  t3 := Tryd.underlying3
  a3 := Tryd.isAgg3
  z3 := Tryd.sizeOf3
  v3 := Tryd.zeroValue3
  t4 := Tryd.underlying4
  a4 := Tryd.isAgg4
  z4 := Tryd.sizeOf4
  v4 := Tryd.zeroValue4
  t5 := Tryd.underlying5
  a5 := Tryd.isAgg5
  z5 := Tryd.sizeOf5
  v5 := Tryd.zeroValue5
  t9 := Tryd.underlying9
  a9 := Tryd.isAgg9
  z9 := Tryd.sizeOf9
  v9 := Tryd.zeroValue9
  t22 := Tryd.underlying31
  a22 := Tryd.isAgg31
  z22 := Tryd.sizeOf31
  v22 := Tryd.zeroValue31
  a24 := Tryd.isAgg3
  z24 := Tryd.sizeOf3
  t25 := Tryd.underlying113
  a25 := Tryd.isAgg113
  z25 := Tryd.sizeOf113
  v25 := Tryd.zeroValue113
  t39 := Tryd.underlying130
  a39 := Tryd.isAgg130
  z39 := Tryd.sizeOf130
  v39 := Tryd.zeroValue130
  t45 := Tryd.underlying139
  a45 := Tryd.isAgg139
  z45 := Tryd.sizeOf139
  v45 := Tryd.zeroValue139
  t46 := Tryd.underlying140
  a46 := Tryd.isAgg140
  z46 := Tryd.sizeOf140
  v46 := Tryd.zeroValue140
  t50 := Tryd.underlying82
  a50 := Tryd.isAgg82
  z50 := Tryd.sizeOf82
  v50 := Tryd.zeroValue82
  t53 := Tryd.underlying146
  a53 := Tryd.isAgg146
  z53 := Tryd.sizeOf146
  v53 := Tryd.zeroValue146
  t55 := Tryd.underlying115
  a55 := Tryd.isAgg115
  z55 := Tryd.sizeOf115
  v55 := Tryd.zeroValue115
  t66 := Tryd.underlying148
  a66 := Tryd.isAgg148
  z66 := Tryd.sizeOf148
  v66 := Tryd.zeroValue148
  t70 := Tryd.underlying152
  a70 := Tryd.isAgg152
  z70 := Tryd.sizeOf152
  v70 := Tryd.zeroValue152
  t76 := Tryd.underlying154
  a76 := Tryd.isAgg154
  z76 := Tryd.sizeOf154
  v76 := Tryd.zeroValue154
  t77 := Tryd.underlying155
  a77 := Tryd.isAgg155
  z77 := Tryd.sizeOf155
  v77 := Tryd.zeroValue155 }

end Go.Proofs

/-
  kruskal: what compares two edges by weight, and then by index.
-/
namespace Go.Proofs.YtipgbbhgmoehfaaDoor
open Go.RowKit
set_option linter.unusedSimpArgs false
set_option linter.unusedSectionVars false

def cmp3 (a b : Int) : Int := if a < b then -1 else if b < a then 1 else 0
set_option maxRecDepth 100000 in
theorem compare64_any (a b : Int) (w : World) : Calls Tryd.prog 42 #[.int .i64 a, .int .i64 b] w fun e w' => e = .returned (.int .i64 (cmp3 a b)) ∧ w = w' := by
  have na : (a != a) = false := by simp
  have nb : (b != b) = false := by simp
  unfold cmp3
  by_cases h1 : a < b
  · rw [if_pos h1]
    go_enter Tryd.func42, Tryd.ntmps42
    go_wp2
    go_ret
    exact ⟨rfl, rfl⟩
  · by_cases h2 : b < a
    · rw [if_neg h1, if_pos h2]
      go_enter Tryd.func42, Tryd.ntmps42
      go_wp2
      go_ret
      exact ⟨rfl, rfl⟩
    · rw [if_neg h1, if_neg h2]
      go_enter Tryd.func42, Tryd.ntmps42
      go_wp2
      go_ret
      exact ⟨rfl, rfl⟩

set_option maxRecDepth 100000 in
theorem compareInt_any (a b : Int) (w : World) : Calls Tryd.prog 43 #[.int .i64 a, .int .i64 b] w fun e w' => e = .returned (.int .i64 (cmp3 a b)) ∧ w = w' := by
  have na : (a != a) = false := by simp
  have nb : (b != b) = false := by simp
  unfold cmp3
  by_cases h1 : a < b
  · rw [if_pos h1]
    go_enter Tryd.func43, Tryd.ntmps43
    go_wp2
    go_ret
    exact ⟨rfl, rfl⟩
  · by_cases h2 : b < a
    · rw [if_neg h1, if_pos h2]
      go_enter Tryd.func43, Tryd.ntmps43
      go_wp2
      go_ret
      exact ⟨rfl, rfl⟩
    · rw [if_neg h1, if_neg h2]
      go_enter Tryd.func43, Tryd.ntmps43
      go_wp2
      go_ret
      exact ⟨rfl, rfl⟩
def or2 (a b : Int) : Int := if a = 0 then b else a
set_option maxRecDepth 100000 in
theorem or_any (g : Nat) (a b : Int) (w : World) (h0 : w.cell? ⟨g, 0, none⟩ = some (.int .i64 a)) (h1 : w.cell? ⟨g, 1, none⟩ = some (.int .i64 b)) : Calls Tryd.prog 41 #[.slice (some ⟨g, 0, none⟩) 2 2] w fun e w' => e = .returned (.int .i64 (or2 a b)) ∧ w = w' := by
  unfold or2
  by_cases ha : a = 0
  · subst ha
    rw [if_pos rfl]
    by_cases hb : b = 0
    · subst hb
      go_enter Tryd.func41, Tryd.ntmps41
      go_wp2
      refine wp_loop_rounds 3 ?_
      rw [rounds_succ]
      go_wp2
      rw [rounds_succ]
      go_wp2
      rw [rounds_succ]
      go_wp2
      go_ret
      exact ⟨rfl, rfl⟩
    · have q : (b != 0) = true := by simp [hb]
      go_enter Tryd.func41, Tryd.ntmps41
      go_wp2
      refine wp_loop_rounds 3 ?_
      rw [rounds_succ]
      go_wp2
      rw [rounds_succ]
      go_wp2
      go_ret
      exact ⟨rfl, rfl⟩
  · have q : (a != 0) = true := by simp [ha]
    rw [if_neg ha]
    go_enter Tryd.func41, Tryd.ntmps41
    go_wp2
    refine wp_loop_rounds 3 ?_
    rw [rounds_succ]
    go_wp2
    go_ret
    exact ⟨rfl, rfl⟩

set_option maxRecDepth 100000 in
set_option maxHeartbeats 4000000 in
theorem order1_any (B : Nat) (E : Option Addr) (me ce i j : Nat) (u v x : Nat → Int) (w : World) (hB : w.cell? ⟨B, 0, none⟩ = some (.slice E me ce)) (h : EdgesIn w E me u v x) (hi : i < me) (hj : j < me) :
    Calls Tryd.prog 40 #[.int .i64 i, .int .i64 j, .pointer (some ⟨B, 0, none⟩)] w fun e w' => e = .returned (.int .i64 (or2 (cmp3 (x i) (x j)) (cmp3 i j))) ∧ w' = (w.alloc (.cells #[.int .i64 (cmp3 (x i) (x j)), .int .i64 (cmp3 i j)] 3)).drew := by
  have hl := h.len
  unfold maxLen at hl
  obtain ⟨b, off, rfl, hb, _, _, e2⟩ := h.cell hi
  obtain ⟨b', off', hA, _, _, _, f2⟩ := h.cell hj
  cases hA
  clear h
  obtain ⟨a, ha⟩ : ∃ a, x i = a := ⟨_, rfl⟩
  obtain ⟨d, hd⟩ : ∃ d, x j = d := ⟨_, rfl⟩
  rw [ha] at e2 ⊢
  rw [hd] at f2 ⊢
  clear ha hd
  have C1 := Lib.hid (fun W => compare64_any a d W)
  have C2 := Lib.hid (fun W => compareInt_any i j W)
  obtain ⟨p, hp⟩ : ∃ p, cmp3 a d = p := ⟨_, rfl⟩
  obtain ⟨q, hq⟩ : ∃ q, cmp3 i j = q := ⟨_, rfl⟩
  rw [hp] at C1 ⊢
  rw [hq] at C2 ⊢
  clear hp hq
  have C3 := Lib.hid (or_any w.heap.size p q ((w.alloc (.cells #[.int .i64 p, .int .i64 q] 3)).drew) (cell_of_heap (heap_alloc_new w _) rfl) (cell_of_heap (heap_alloc_new w _) rfl))
  go_enter Tryd.func40, Tryd.ntmps40
  go_wp2_with fail
  go_region_held3 (fun w' => w'.cell? ⟨B, 0, none⟩ = some (.slice (some ⟨b, off, none⟩) me ce) ∧ w'.cell? ⟨b, off + i * 3 + 2, none⟩ = some (.int .i64 a) ∧ w'.cell? ⟨b, off + j * 3 + 2, none⟩ = some (.int .i64 d)) (go_keep)
    (first | (go_at_call 42; refine (C1.out _).mono ?_; rintro e w' ⟨rfl, rfl⟩) | (go_at_call 43; refine (C2.out _).mono ?_; rintro e w' ⟨rfl, rfl⟩) | (go_at_call 41; refine C3.out.mono ?_; rintro e w' ⟨rfl, rfl⟩))
  all_goals
    go_wp2_with fail
    go_ret
    exact ⟨rfl, rfl⟩

end Go.Proofs.YtipgbbhgmoehfaaDoor

/-
  kruskal: Order.
-/
namespace Go.Proofs.YtipgbbhgmoehfaaDoor
open Go.RowKit
set_option linter.unusedSimpArgs false
set_option linter.unusedSectionVars false

section
variable {k : Nat} (x : Nat → Int)
/-- How two indexes of edges compare. -/
def cmpE (i j : Fin (k + 1)) : Int := or2 (cmp3 (x i.val) (x j.val)) (cmp3 (i.val : Nat) (j.val : Nat))
theorem ltE (i j : Fin (k + 1)) : Go.Proofs.ltOf (cmpE x) i j = decide (x i.val < x j.val ∨ (x i.val = x j.val ∧ i.val < j.val)) := by
  unfold Go.Proofs.ltOf cmpE or2 cmp3
  rw [decide_eq_decide]
  constructor
  · intro h
    split at h <;> (repeat' split at h) <;> omega
  · intro h
    split <;> (repeat' split) <;> omega
theorem swoE : Go.Sort.SWO (Go.Proofs.ltOf (cmpE (k := k) x)) where
  irrefl i := by rw [ltE]; simp
  trans i j l h1 h2 := by rw [ltE] at *; simp at *; omega
  ntrans i j l h1 h2 := by rw [ltE] at *; simp at *; omega
end
theorem sortWorld_heap {α : Type} [Inhabited α] (enc : α → Value) (w : World) (blk m : Nat) (dk : Array α) (os : Array Obj) {i : Nat} (hi : i < w.heap.size) :
    (Go.Proofs.sortWorld enc w blk 0 m dk os).heap[i]? = if blk = i then (w.heap[i]?).map (Go.Sort.onCells (Go.Sort.putCells enc 0 dk)) else w.heap[i]? := by
  unfold Go.Proofs.sortWorld Go.Sort.grow Go.Sort.putRow Go.Sort.mapBlock Go.Sort.ahead
  simp only [Array.getElem?_append, Array.size_modify, if_pos hi, Array.getElem?_modify]
theorem sortWorld_only {α : Type} [Inhabited α] (enc : α → Value) (w : World) (blk m : Nat) (dk : Array α) (os : Array Obj) : Only [blk] w (Go.Proofs.sortWorld enc w blk 0 m dk os) := by
  refine ⟨rfl, rfl, rfl, ?_, fun i hi hn => ?_⟩
  · unfold Go.Proofs.sortWorld Go.Sort.grow Go.Sort.putRow Go.Sort.mapBlock Go.Sort.ahead
    simp only [Array.size_append, Array.size_modify]
    omega
  · rw [sortWorld_heap _ _ _ _ _ _ hi, if_neg (by simp at hn; omega)]
theorem sortWorld_row {n : Nat} {α : Type} [Inhabited α] (enc : α → Value) (val : α → Nat) (he : ∀ a, enc a = .int .i64 (val a)) (w : World) (blk m : Nat) (dk : Array α) (os : Array Obj) {f : Nat → Nat} (h : Row w blk n f) (hd : dk.size = n) :
    Row (Go.Proofs.sortWorld enc w blk 0 m dk os) blk n (fun j => val dk[j]!) := by
  obtain ⟨c, hc, hv⟩ := h
  refine ⟨Go.Sort.putCells enc 0 dk c, ?_, fun i hi => ?_⟩
  · rw [sortWorld_heap _ _ _ _ _ _ (heap_lt hc), if_pos rfl, hc]
    rfl
  · unfold Go.Sort.putCells
    rw [Array.getElem?_mapIdx, hv i hi, Option.map_some, if_pos ⟨Nat.zero_le _, by omega⟩, he]
    rfl
theorem extract_all {α : Type} (d : Array α) {n : Nat} (h : d.size = n) : d.extract 0 n = d := by subst h; simp
/-- What sorting gives is an order by weight. -/
theorem byWeight_of {k : Nat} {x : Nat → Int} {d : Array (Fin (k + 1))} (hp : Go.Sort.PermIn 0 (k + 1) (Array.ofFn id) d) (hs : Go.Sort.SortedIn (Go.Proofs.ltOf (cmpE x)) 0 (k + 1) d) :
    d.size = k + 1 ∧ ByWeight (k + 1) x (fun j => (d[j]!).val) := by
  obtain ⟨h1, _, h3⟩ := hp
  rw [Array.size_ofFn] at h1
  have e1 : d.extract 0 (k + 1) = d := extract_all d h1
  have e2 : (Array.ofFn (id : Fin (k + 1) → Fin (k + 1))).extract 0 (k + 1) = Array.ofFn id := extract_all _ Array.size_ofFn
  rw [e1, e2] at h3
  have m1 : (List.range (k + 1)).map (fun j => (d[j]!).val) = d.toList.map Fin.val := by
    apply List.ext_getElem?
    intro i
    rw [List.getElem?_map, List.getElem?_map]
    by_cases hi : i < k + 1
    · rw [List.getElem?_range hi, Option.map_some, Array.getElem?_toList, Array.getElem?_eq_getElem (by omega), Option.map_some, getElem!_pos d i (by omega)]
    · rw [List.getElem?_eq_none (by rw [List.length_range]; omega), List.getElem?_eq_none (by rw [Array.length_toList]; omega)]
      rfl
  have m2 : (Array.ofFn (id : Fin (k + 1) → Fin (k + 1))).toList.map Fin.val = List.range (k + 1) := by
    apply List.ext_getElem?
    intro i
    rw [List.getElem?_map]
    by_cases hi : i < k + 1
    · rw [List.getElem?_range hi, Array.getElem?_toList, Array.getElem?_eq_getElem (by rw [Array.size_ofFn]; omega), Option.map_some, Array.getElem_ofFn]
      rfl
    · rw [List.getElem?_eq_none (by rw [Array.length_toList, Array.size_ofFn]; omega), List.getElem?_eq_none (by rw [List.length_range]; omega)]
      rfl
  have hperm : ((List.range (k + 1)).map fun j => (d[j]!).val).Perm (List.range (k + 1)) := by
    rw [m1]
    conv => rhs; rw [← m2]
    exact h3.map _
  refine ⟨h1, hperm, fun i j hij hj => ?_⟩
  have hl := hs i j (Nat.zero_le _) hij hj
  rw [ltE] at hl
  have hne : (d[i]!).val ≠ (d[j]!).val := by
    have hnd : ((List.range (k + 1)).map fun j => (d[j]!).val).Nodup := hperm.nodup_iff.2 List.nodup_range
    intro e
    have := (List.getElem_inj (xs := (List.range (k + 1)).map fun j => (d[j]!).val) (i := i) (j := j) (h₀ := by simp; omega) (h₁ := by simp; omega) hnd).1 (by simpa using e)
    omega
  simp at hl
  show x (d[i]!).val < x (d[j]!).val ∨ (x (d[i]!).val = x (d[j]!).val ∧ (d[i]!).val < (d[j]!).val)
  omega

/-- What Order returns. -/
def OrderPost (me : Nat) (x : Nat → Int) (w : World) (e : Ending) (w' : World) : Prop := ∃ g o, e = .returned (.slice (some ⟨g, 0, none⟩) me me) ∧ Row w' g me o ∧ ByWeight me x o ∧ w.heap.size ≤ g ∧ Only [] w w'
theorem byWeight_none (x : Nat → Int) : ByWeight 0 x id := ⟨.refl _, fun i j _ h => by omega⟩

set_option maxRecDepth 100000 in
theorem sort_call {E : Option Addr} {k ce B blk : Nat} {u v x : Nat → Int} {w w1 : World} (h : EdgesIn w E (k + 1) u v x) (hO : Only [] w w1) (hB : w1.cell? ⟨B, 0, none⟩ = some (.slice E (k + 1) ce)) (hb : w.heap.size ≤ blk) (hne : B ≠ blk) (hr : Row w1 blk (k + 1) id) (hk : k + 1 ≤ 65536) :
    Calls Tryd.prog 39 #[.slice (some ⟨blk, 0, none⟩) (k + 1) (k + 1), .func (.func 40) #[] #[.pointer (some ⟨B, 0, none⟩)]] w1 fun e w' =>
      e = .returned (.tuple #[]) ∧ ∃ o, Row w' blk (k + 1) o ∧ ByWeight (k + 1) x o ∧ Only [] w w' := by
  have hsz : (Array.ofFn (id : Fin (k + 1) → Fin (k + 1))).size = k + 1 := Array.size_ofFn
  have hget : ∀ j, (hj : j < k + 1) → (Array.ofFn (id : Fin (k + 1) → Fin (k + 1)))[j]! = ⟨j, hj⟩ := fun j hj => by
    rw [getElem!_pos _ j (by rw [hsz]; exact hj), Array.getElem_ofFn]
    rfl
  have hH : Go.Sort.Holds (fun i : Fin (k + 1) => Value.int .i64 (i.val : Nat)) w1 blk 0 (Array.ofFn id) := by
    intro j hj
    rw [hsz] at hj
    rw [hget j hj, Nat.zero_add]
    exact ⟨hr.cell hj, hr.frozen j⟩
  have hblk : blk < w1.heap.size := hr.lt
  have hBl : B < w1.heap.size := cell_lt hB
  have hcmp : Go.Proofs.CmpLays1 Tryd.prog 40 #[.pointer (some ⟨B, 0, none⟩)] (fun i : Fin (k + 1) => Value.int .i64 (i.val : Nat)) (cmpE x) blk 0 (Array.ofFn (id : Fin (k + 1) → Fin (k + 1))).size w1 := by
    intro m os dk _ i j
    have hS := sortWorld_only (fun i : Fin (k + 1) => Value.int .i64 (i.val : Nat)) w1 blk m dk os
    have hO2 : Only [] w (Go.Proofs.sortWorld (fun i : Fin (k + 1) => Value.int .i64 (i.val : Nat)) w1 blk 0 m dk os) := hO.to hS fun a ha hlt => by simp at ha; omega
    refine (order1_any B E (k + 1) ce i.val j.val u v x _ ((World.cell?_of_block (hS.block B hBl (by simpa using hne))).trans hB) (h.only hO2) i.isLt j.isLt).mono ?_
    rintro e w' ⟨rfl, rfl⟩
    exact ⟨rfl, 1, #[_], by rw [Go.Sort.alloc_eq_grow]; rfl⟩
  have hcon := Go.Proofs.Any.slices_SortFunc Go.Proofs.Tryd.sortInts (fun i : Fin (k + 1) => Value.int .i64 (i.val : Nat)) (fun _ => rfl) (cmpE x) (swoE x) 40 #[.pointer (some ⟨B, 0, none⟩)] blk 0 (k + 1) (Array.ofFn id) w1 (enters_of Tryd.func40 (by kernel_rfl) rfl) hcmp hH hblk (by rw [hsz]; omega)
  rw [hsz] at hcon
  change Calls Tryd.prog 39 _ _ _ at hcon
  refine hcon.mono ?_
  rintro e w' ⟨rfl, d', n, os, hp, hs, rfl⟩
  obtain ⟨hd, hbw⟩ := byWeight_of hp hs
  exact ⟨rfl, _, sortWorld_row _ Fin.val (fun _ => rfl) w1 blk n d' os hr hd, hbw, hO.to (sortWorld_only _ w1 blk n d' os) fun a ha hlt => by simp at ha; omega⟩

end Go.Proofs.YtipgbbhgmoehfaaDoor

/-
  kruskal: Order, the walk.
-/
namespace Go.Proofs.YtipgbbhgmoehfaaDoor
open Go.RowKit
set_option linter.unusedSimpArgs false
set_option linter.unusedSectionVars false

set_option maxRecDepth 100000 in
theorem sort_none (p : Option Addr) (cap : Nat) (fv : Value) (w : World) : Calls Tryd.prog 39 #[.slice p 0 cap, fv] w fun e w' => e = .returned (.tuple #[]) ∧ w' = w := Go.Proofs.AnyF.slices_SortFunc_none { Go.Proofs.Tryd.sortInts with } p cap fv w

set_option maxRecDepth 100000 in
set_option maxHeartbeats 4000000 in
theorem Order_any (E : Option Addr) (me ce : Nat) (u v x : Nat → Int) (w : World) (h : EdgesIn w E me u v x) (hme : me ≤ 65536) : Calls Tryd.prog 26 #[.slice E me ce] w (OrderPost me x w) := by
  have hmk := mk_ints me (by omega)
  have HE := Lib.hid h
  clear h
  obtain ⟨w0, hw0⟩ : ∃ w0, w.alloc (.cells #[.slice E me ce] 22) = w0 := ⟨_, rfl⟩
  have hb0 : Boxed w0 w.heap.size 22 (.slice E me ce) := hw0 ▸ heap_alloc_new w _
  have hs0 : w0.heap.size = w.heap.size + 1 := by rw [← hw0, World.size_alloc]
  have HW := Lib.hid hw0
  have HB := Lib.hid hb0
  have HO0 := Lib.hid (show Only [] w w0 from hw0 ▸ (Only.refl [] w).alloc _)
  have HS := Lib.hid hs0
  have c0 := hb0.cell
  clear hw0 hb0 hs0
  go_enter Tryd.func26, Tryd.ntmps26
  go_wp2_with fail
  rw [HW.out]
  clear hmk
  have HM := Lib.hid (made_row (heap_alloc_new w0 (.cells (madeCells #[.int .i64 0] me) 3)))
  rw [HS.out] at HM
  go_loopw [10] (fun i wr => ∃ k : Nat, k ≤ me ∧ i = .int .i64 k ∧ Hid (Row wr (w.heap.size + 1) me (fun j => if j < k then j else 0)) ∧ Hid (Only [] w0 wr)) (fun i _ => me - (intOf i).toNat)
  case atStart => exact ⟨0, Nat.zero_le _, rfl, Lib.hid (HM.out.congr fun i _ => by rw [if_neg (by omega)]), Lib.hid ((Only.refl [] w0).alloc _)⟩
  case round =>
    obtain ⟨k, hk, rfl, H1, HO⟩ := hrel
    by_cases hlt : k < me
    · have c1 := H1.out.cell hlt
      have z1 := H1.out.frozen k
      have H2 := Lib.hid ((H1.out.put k k).congr (f' := fun j => if j < k + 1 then j else 0) fun i _ => by
        unfold Go.Proofs.YtipgbbhgmoehfaaDoor.put
        by_cases e : i = k
        · rw [if_pos e, if_pos (by omega), e]
        · rw [if_neg e]
          show (if i < k then i else 0) = _
          by_cases e2 : i < k
          · rw [if_pos e2, if_pos (by omega)]
          · rw [if_neg e2, if_neg (by omega)])
      have HO2 := Lib.hid (HO.out.to ((Only.refl [w.heap.size + 1] wr).setCell (g := w.heap.size + 1) (i := k) (by simp) (.int .i64 k)) fun i hi hlt => by simp at hi; have := HS.out; omega)
      clear H1
      go_wp2_with fail
      go_roundw
      case rel => exact ⟨k + 1, by omega, by go_num, H2, HO2⟩
      case measure => simp [intOf]; omega
    · obtain rfl : k = me := by omega
      have HR := Lib.hid (H1.out.congr (f' := id) fun j hj => by rw [if_pos hj]; rfl)
      have HB1 := Lib.hid ((HO.out.block _ HB.out.lt (by simp)).trans HB.out)
      have HO1 := Lib.hid (HO0.out.trans HO.out)
      clear H1 HO c0
      rcases Nat.eq_zero_or_pos k with rfl | hp
      · go_wp2_with fail
        refine (sort_none _ _ _ _).mono ?_
        rintro e w' ⟨rfl, rfl⟩
        go_wp2_with fail
        go_ret
        exact ⟨_, id, rfl, HR.out, byWeight_none x, by omega, HO1.out⟩
      · obtain ⟨k, rfl⟩ : ∃ j, k = j + 1 := ⟨k - 1, by omega⟩
        have CS := Lib.hid (sort_call (ce := ce) HE.out HO1.out (Boxed.cell HB1.out) (show w.heap.size ≤ w.heap.size + 1 by omega) (show w.heap.size ≠ w.heap.size + 1 by omega) HR.out hme)
        go_wp2_with fail
        refine CS.out.mono ?_
        rintro e w' ⟨rfl, o, hr, hbw, hO⟩
        have HX := Lib.hid (And.intro hr (And.intro hbw hO))
        clear hr hbw hO CS
        go_wp2_with fail
        go_ret
        exact ⟨_, o, rfl, HX.out.1, HX.out.2.1, by omega, HX.out.2.2⟩

end Go.Proofs.YtipgbbhgmoehfaaDoor
